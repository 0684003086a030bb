/- Walks: CliqueIn, CoverIn of the reference (by sed of XSbA, wip/mkSbH.py). -/
import Derived.Test.YtkppbmfliejnmaaDoorSnQ39
import Derived.Test.YtkppbmfliejnmaaDoorSnQ10
import Derived.Test.YtkppbmfliejnmaaDoorSnQ12
namespace Go.Proofs.YtkppbmfliejnmaaDoor
open Go.RowKit

/-- Each vertex of a set of bits has all others of it beside it. -/
def ClqB (a : List Nat) (b : Nat) : Prop := ∀ v, v < a.length → b.testBit v = true → sub b (a.getD v 0) = 2 ^ v

set_option maxRecDepth 100000 in
set_option maxHeartbeats 2000000 in
theorem l25Clique_any (p : Option Addr) (c : Nat) (a : List Nat) (b : Nat) (hal : a.length ≤ 16) (ha : ∀ x ∈ a, x < 65536) (hb : b < 65536) (w : World) (hx : Sl w 2 (.slice p a.length c) a.length (a.map i64v)) :
    Calls Tryd.prog 104 #[.slice p a.length c, .int .i64 (b : Int)] w fun e w' => e = .returned (.bool (dec (ClqB a b))) ∧ w = w' := by
  have HX := Lib.hid hx
  have HIN := Lib.hid ha
  clear hx ha
  go_enter Tryd.func104, Tryd.ntmps104
  go_wp2
  go_loop [5] (fun t => ∃ j : Nat, t = .int .i64 j ∧ j ≤ a.length ∧ Hid (∀ v, v < j → b.testBit v = true → sub b (a.getD v 0) = 2 ^ v)) (fun t => a.length - (intOf t).toNat)
  case atStart => exact ⟨0, rfl, Nat.zero_le _, Lib.hid fun v h => absurd h (Nat.not_lt_zero _)⟩
  case round =>
    obtain ⟨j, rfl, hj, HA⟩ := hrel
    by_cases hjl : j < a.length
    · obtain ⟨qb, qo, rfl, hc⟩ := i64_cell HX.out hjl
      have hx16 := HIN.out _ (List.getElem_mem hjl)
      have HG : Hid (a.getD j 0 = a[j]) := Lib.hid (by rw [List.getD_eq_getElem?_getD, List.getElem?_eq_getElem hjl]; rfl)
      generalize a[j] = x at hc hx16 HG
      have hbit := shrB_bit b j hb
      have hand := i64_andNot_nat b x (by omega) (by omega)
      have hpw := wrap_pow j (by omega)
      have hj32 : j < 64 := by omega
      cases ht : b.testBit j
      · rw [ht] at hbit
        have HT := Lib.hid ht
        clear ht hand
        go_wp2
        go_round
        case rel => exact ⟨j + 1, by go_num, by omega, Lib.hid fun v hv hv2 => by
          by_cases e : v < j
          · exact HA.out v e hv2
          · obtain rfl : v = j := by omega
            rw [HT.out] at hv2; cases hv2⟩
        case measure => simp [intOf]; omega
      · rw [ht] at hbit
        have HT := Lib.hid ht
        clear ht
        obtain ⟨q, hq⟩ : ∃ q, q = 2 ^ j := ⟨_, rfl⟩
        have HQ := Lib.hid hq
        rw [← hq] at hpw
        by_cases h0 : sub b x = 2 ^ j
        · have H0 := Lib.hid h0
          rw [h0, ← hq] at hand
          clear h0 hq
          go_wp2
          go_round
          case rel => exact ⟨j + 1, by go_num, by omega, Lib.hid fun v hv hv2 => by
            by_cases e : v < j
            · exact HA.out v e hv2
            · obtain rfl : v = j := by omega
              rw [HG.out]; exact H0.out⟩
          case measure => simp [intOf]; omega
        · have HNE : Hid (¬ sub b (a.getD j 0) = 2 ^ j) := Lib.hid (by rw [HG.out]; exact h0)
          have HJ := Lib.hid hjl
          rw [← hq] at h0
          have hne : (((sub b x : Nat) : Int) != (q : Int)) = true := bne_iff_ne.2 (by omega)
          generalize sub b x = y at hand hne h0
          clear h0 hq
          go_wp2
          go_ret
          exact ⟨ret_bool (false_dec fun k => HNE.out (k j HJ.out HT.out)), rfl⟩
    · obtain rfl : j = a.length := by omega
      go_wp2
      go_ret
      exact ⟨ret_bool (true_dec HA.out), rfl⟩

/-- A set of which any two are neighbours. -/
def ClqI (g : List (List Int)) (s : List Int) : Prop := GOk g ∧ SetIn g.length s ∧ ClqB (netL g) (mask s)

set_option maxRecDepth 100000 in
set_option maxHeartbeats 2000000 in
theorem specCliqueIn_any (v lv : Value) (g : List (List Int)) (s : List Int) (hgl : g.length ≤ 1000000000) (w : World) (hg : Gr w v g) (hn : Nums w 2 .i64 lv s) :
    Calls Tryd.prog 25 #[v, lv] w fun e w' => e = .returned (.bool (dec (ClqI g s))) ∧ Below w.heap.size w w' := by
  have hg0 := hg
  obtain ⟨u, rfl, hr⟩ := hg
  obtain ⟨p, c, rfl, _⟩ := hr.shape
  obtain ⟨lp, lc, rfl, _⟩ := id hn.shape
  obtain ⟨W0, hW0⟩ : ∃ W0, W0 = w.alloc (.cells #[.slice p g.length c] 29) := ⟨_, rfl⟩
  have hb0 : Below w.heap.size w W0 := by rw [hW0]; exact below_alloc _ _
  have HBX : Hid (Box W0 w.heap.size 29 (.slice p g.length c)) := Lib.hid (by rw [hW0]; exact Box.new _ _ _)
  have HG := Lib.hid (hg0.below hb0)
  have HN := Lib.hid (hn.below hb0)
  have HB0 := Lib.hid hb0
  have c0 := HBX.out.cell
  clear hr hg0 hn hb0
  by_cases hok : GOk g
  case neg =>
    have HD := Lib.hid (dec_false hok)
    have HNO : Hid (¬ ClqI g s) := Lib.hid fun k => hok k.1
    clear hok
    go_enter Tryd.func25, Tryd.ntmps25
    go_upto_region 1 with fail
    rw [← hW0]
    clear hW0
    go_wp2_with (go_at_call 73; refine (specGraphOk_any _ g _ HG.out).mono ?_; rintro e w2 ⟨he, hb2⟩; rw [HD.out] at he; subst he)
    go_ret
    exact ⟨ret_bool (false_dec HNO.out), HB0.out.trans (hb2.mono HB0.out.size)⟩
  have HDG := Lib.hid (dec_true hok)
  by_cases hset : SetIn g.length s
  case neg =>
    have HD : Hid (dec (GOk g ∧ SetIn g.length s) = false) := Lib.hid (dec_false fun k => hset k.2)
    have HNO : Hid (¬ ClqI g s) := Lib.hid fun k => hset k.2.1
    clear hok hset
    go_enter Tryd.func25, Tryd.ntmps25
    go_upto_region 1 with fail
    rw [← hW0]
    clear hW0
    go_wp2_with (first
      | (have X := hb2; go_at_call 99; refine (specSetOk_any _ _ g s hgl _ (HG.out.below X) (HN.out.below X)).mono ?_; rintro e w3 ⟨he, hb3⟩; rw [HD.out] at he; subst he)
      | (go_at_call 73; refine (specGraphOk_any _ g _ HG.out).mono ?_; rintro e w2 ⟨he, hb2⟩; rw [HDG.out] at he; subst he; have d0 := hb2.at' c0))
    go_ret
    exact ⟨ret_bool (false_dec HNO.out), HB0.out.trans ((hb2.trans (hb3.mono hb2.size)).mono HB0.out.size)⟩
  have HD : Hid (dec (GOk g ∧ SetIn g.length s) = true) := Lib.hid (dec_true ⟨hok, hset⟩)
  have h16 := hok.le
  have HIN : Hid (∀ x ∈ s, 0 ≤ x ∧ x < 16) := Lib.hid fun x hx => by have := hset.1 x hx; omega
  have hm16 : mask s < 65536 := by
    have := mask_take_lt16 HIN.out s.length
    rwa [List.take_length] at this
  have HIFF : Hid (dec (ClqB (netL g) (mask s)) = dec (ClqI g s)) := Lib.hid (by
    by_cases h : ClqB (netL g) (mask s)
    · rw [dec_true h, dec_true ⟨hok, hset, h⟩]
    · rw [dec_false h, dec_false fun k => h k.2.2])
  have HOK := Lib.hid hok
  have hnl : (netL g).length = g.length := netL_len g
  have HNL := Lib.hid hnl
  obtain ⟨b, hb⟩ : ∃ b, b = mask s := ⟨_, rfl⟩
  have HMB := Lib.hid hb
  rw [← hb] at hm16 HIFF
  have STB : Hid (∀ (wz : World) (q : Option Addr) (d : Nat), Sl wz 2 (.slice q g.length d) g.length ((netL g).map i64v) → Calls Tryd.prog 104 #[.slice q g.length d, .int .i64 (b : Int)] wz fun e w' => e = .returned (.bool (dec (ClqI g s))) ∧ wz = w') := Lib.hid fun wz q d h => by
    have := l25Clique_any q d (netL g) b (by rw [HNL.out]; exact h16) (fun x hx => netL_lt HOK.out x hx) hm16 wz (by rw [HNL.out]; exact h)
    rw [HNL.out, HIFF.out] at this
    exact this
  clear hok hset hb hnl
  go_enter Tryd.func25, Tryd.ntmps25
  go_upto_region 1 with fail
  rw [← hW0]
  clear hW0
  go_wp2_with (first
    | (go_at_call 104; refine (STB.out _ _ _ HSL.out).mono ?_; rintro e w6 ⟨rfl, rfl⟩)
    | (have X := HB4; go_at_call 102; refine (l25Mask_any _ s HIN.out _ (HN.out.below HB4.out)).mono ?_; rintro e w5 ⟨he, rfl⟩; rw [← HMB.out] at he; subst he)
    | (have X := HB3; go_at_call 101; refine (l25Bits_any _ g _ (HG.out.below HB3.out) HOK.out).mono ?_; rintro e w4 ⟨u4, rfl, ho4, hb4⟩; obtain ⟨q4, d4, rfl, _⟩ := owns_capL ho4; have HSL := Lib.hid (Sl.of_owns ho4 (by omega)); have HB4 := Lib.hid (HB3.out.trans (hb4.mono HB3.out.size)); clear ho4 hb4)
    | (have X := hb2; go_at_call 99; refine (specSetOk_any _ _ g s hgl _ (HG.out.below X) (HN.out.below X)).mono ?_; rintro e w3 ⟨he, hb3⟩; rw [HD.out] at he; subst he; have HB3 := Lib.hid (hb2.trans (hb3.mono hb2.size)); have e0 := hb3.at' d0)
    | (go_at_call 73; refine (specGraphOk_any _ g _ HG.out).mono ?_; rintro e w2 ⟨he, hb2⟩; rw [HDG.out] at he; subst he; have d0 := hb2.at' c0))
  go_ret
  exact ⟨rfl, HB0.out.trans (HB4.out.mono HB0.out.size)⟩

set_option maxRecDepth 100000 in
set_option maxHeartbeats 1000000 in
theorem l25All_any (v : Value) (g : List (List Int)) (h16 : g.length ≤ 16) (w : World) (hg : Gr w v g) :
    Calls Tryd.prog 103 #[v] w fun e w' => e = .returned (.int .i64 ((2 ^ g.length - 1 : Nat) : Int)) ∧ Below w.heap.size w w' := by
  obtain ⟨u, rfl, hr⟩ := hg
  obtain ⟨p, c, rfl, _⟩ := hr.shape
  have hb0 := below_alloc w (.cells #[.slice p g.length c] 29)
  have HB0 := Lib.hid hb0
  have c0 := (Box.new w (.slice p g.length c) 29).cell
  have hwp := wrap_pow g.length (by omega)
  obtain ⟨q, hq⟩ : ∃ q, q = 2 ^ g.length := ⟨_, rfl⟩
  have hq1 : 1 ≤ q := by rw [hq]; exact Nat.two_pow_pos _
  have hq16 : q ≤ 65536 := by
    rw [hq]
    exact Nat.le_trans (Nat.pow_le_pow_right (by decide) h16) (by decide)
  rw [← hq] at hwp ⊢
  clear hr hb0 hq
  go_enter Tryd.func103, Tryd.ntmps103
  go_wp2
  go_ret
  exact ⟨by go_num, HB0.out⟩

/-- A set without which nothing has a neighbour. -/
def CovI (g : List (List Int)) (s : List Int) : Prop := GOk g ∧ SetIn g.length s ∧ StbB (netL g) (coN g.length (mask s))
set_option maxRecDepth 100000 in
set_option maxHeartbeats 2000000 in
theorem specCoverIn_yes (v lv : Value) (g : List (List Int)) (s : List Int) (hok : GOk g) (hset : SetIn g.length s) (w : World) (hg : Gr w v g) (hn : Nums w 2 .i64 lv s) :
    Calls Tryd.prog 24 #[v, lv] w fun e w' => e = .returned (.bool (dec (CovI g s))) ∧ Below w.heap.size w w' := by
  have hg0 := hg
  obtain ⟨u, rfl, hr⟩ := hg
  obtain ⟨p, c, rfl, _⟩ := hr.shape
  obtain ⟨lp, lc, rfl, _⟩ := id hn.shape
  obtain ⟨W0, hW0⟩ : ∃ W0, W0 = w.alloc (.cells #[.slice p g.length c] 29) := ⟨_, rfl⟩
  have hb0 : Below w.heap.size w W0 := by rw [hW0]; exact below_alloc _ _
  have HBX : Hid (Box W0 w.heap.size 29 (.slice p g.length c)) := Lib.hid (by rw [hW0]; exact Box.new _ _ _)
  have HG := Lib.hid (hg0.below hb0)
  have HN := Lib.hid (hn.below hb0)
  have HB0 := Lib.hid hb0
  have c0 := HBX.out.cell
  have HDG := Lib.hid (dec_true hok)
  have HD : Hid (dec (GOk g ∧ SetIn g.length s) = true) := Lib.hid (dec_true ⟨hok, hset⟩)
  have h16 := hok.le
  have HIN : Hid (∀ x ∈ s, 0 ≤ x ∧ x < 16) := Lib.hid fun x hx => by have := hset.1 x hx; omega
  have hm16 : mask s < 65536 := by
    have := mask_take_lt16 HIN.out s.length
    rwa [List.take_length] at this
  have hc16 := lt16N h16 (coN_lt h16 hm16)
  have HIFF : Hid (dec (StbB (netL g) (coN g.length (mask s))) = dec (CovI g s)) := Lib.hid (by
    by_cases h : StbB (netL g) (coN g.length (mask s))
    · rw [dec_true h, dec_true ⟨hok, hset, h⟩]
    · rw [dec_false h, dec_false fun k => h k.2.2])
  have HOK := Lib.hid hok
  have HNL : Hid ((netL g).length = g.length) := Lib.hid (netL_len g)
  obtain ⟨b, hb⟩ : ∃ b, b = mask s := ⟨_, rfl⟩
  have HMB := Lib.hid hb
  rw [← hb] at hm16 hc16 HIFF
  have hM16 := all16 h16
  have hand : bits BinOp.andNot IntKind.i64 ((2 ^ g.length - 1 : Nat) : Int) (b : Int) = ((coN g.length b : Nat) : Int) := i64_andNot_nat _ b (by omega) (by omega)
  obtain ⟨M, hM⟩ : ∃ M, M = 2 ^ g.length - 1 := ⟨_, rfl⟩
  have ALL : Hid (∀ (wz : World), Gr wz (.agg #[.slice p g.length c]) g → Calls Tryd.prog 103 #[.agg #[.slice p g.length c]] wz fun e w' => e = .returned (.int .i64 (M : Int)) ∧ Below wz.heap.size wz w') := Lib.hid fun wz h => by
    rw [hM]
    exact l25All_any _ g h16 wz h
  obtain ⟨t, ht⟩ : ∃ t, t = coN g.length b := ⟨_, rfl⟩
  have STB : Hid (∀ (wz : World) (q : Option Addr) (d : Nat), Sl wz 2 (.slice q g.length d) g.length ((netL g).map i64v) → Calls Tryd.prog 100 #[.slice q g.length d, .int .i64 (t : Int)] wz fun e w' => e = .returned (.bool (dec (CovI g s))) ∧ wz = w') := Lib.hid fun wz q d h => by
    have := l25Stable_any q d (netL g) t (by rw [HNL.out]; exact h16) (fun x hx => netL_lt HOK.out x hx) (by rw [ht]; exact hc16) wz (by rw [HNL.out]; exact h)
    rw [ht, HNL.out, HIFF.out] at this
    rw [ht]
    exact this
  rw [← ht, ← hM] at hand
  clear hok hset hb hr hg0 hn hb0 ht hc16 hM hM16
  go_enter Tryd.func24, Tryd.ntmps24
  go_upto_region 1 with fail
  rw [← hW0]
  clear hW0
  go_cut [4] (fun r wx => r = .bool (dec (CovI g s)) ∧ Below W0.heap.size W0 wx)
  case first =>
    go_region_held3 (fun w' => w'.cell? ⟨w.heap.size, 0, none⟩ = some (.slice p g.length c))
      (first | exact c0 | go_keep | exact BWD.at' c0 | exact BWC.at' c0 | exact BWB.at' c0 | exact BWA.at' c0)
      (first
        | (go_at_call 100; refine (STB.out _ _ _ (Sl.below HSL.out (by first | exact hbq4 | exact below_dN (Below.refl _ _) _))).mono ?_; rintro e w6 ⟨rfl, rfl⟩)
        | (have X := BWD; go_at_call 102; refine (l25Mask_any _ s HIN.out _ (HN.out.below (by first | exact BWD | exact below_dN BWD _))).mono ?_; rintro e w5 ⟨he, rfl⟩; rw [← HMB.out] at he; subst he)
        | (have X := BWC; go_at_call 103; refine (ALL.out _ (HG.out.below (by first | exact BWC | exact below_dN BWC _))).mono ?_; rintro e wd ⟨rfl, hbq4⟩; have BWD : Below W0.heap.size W0 wd := (by first | exact BWC.trans (hbq4.mono BWC.size) | exact (below_dN BWC 1).trans (hbq4.mono (below_dN BWC 1).size)))
        | (have X := BWB; go_at_call 101; refine (l25Bits_any _ g _ (HG.out.below (by first | exact BWB | exact below_dN BWB _)) HOK.out).mono ?_; rintro e wc ⟨u4, rfl, ho4, hb4⟩; obtain ⟨q4, d4, rfl, _⟩ := owns_capL ho4; have HSL := Lib.hid (Sl.of_owns ho4 (by omega)); have BWC : Below W0.heap.size W0 wc := (by first | exact BWB.trans (hb4.mono BWB.size) | exact (below_dN BWB 1).trans (hb4.mono (below_dN BWB 1).size)); clear ho4 hb4)
        | (have X := BWA; go_at_call 99; refine (specSetOk_any _ _ g s (by omega) _ (HG.out.below (by first | exact BWA | exact below_dN BWA _)) (HN.out.below (by first | exact BWA | exact below_dN BWA _))).mono ?_; rintro e wb ⟨he, hb3⟩; rw [HD.out] at he; subst he; have BWB : Below W0.heap.size W0 wb := (by first | exact BWA.trans (hb3.mono BWA.size) | exact (below_dN BWA 1).trans (hb3.mono (below_dN BWA 1).size)); clear hb3)
        | (go_at_call 73; refine (specGraphOk_any _ g _ (HG.out.below (below_dN (Below.refl _ _) 1))).mono ?_; rintro e wa ⟨he, hb2⟩; rw [HDG.out] at he; subst he; have BWA : Below W0.heap.size W0 wa := (below_dN (Below.refl _ _) 1).trans hb2; clear hb2))
    all_goals go_wp2
    all_goals go_meet
    all_goals exact ⟨rfl, by first | exact BWD | exact below_dN BWD _⟩
  case rest =>
    obtain ⟨rfl, hbz⟩ := hcut
    go_wp2
    go_ret
    exact ⟨rfl, HB0.out.trans (hbz.mono HB0.out.size)⟩

end Go.Proofs.YtkppbmfliejnmaaDoor

/- Walks: the reference's complement of a right graph. -/
namespace Go.Proofs.YtkppbmfliejnmaaDoor
open Go.RowKit

theorem symE_comp {g : List (List Int)} (hg : GOk g) : SymE g.length (compE (ofG g)) where
  sym := fun r j _ _ => by
    cases h : compE (ofG g) r j with
    | true => exact (comp_sym (ofG_sym hg) r j h).symm
    | false =>
      cases h2 : compE (ofG g) j r with
      | false => rfl
      | true => rw [comp_sym (ofG_sym hg) j r h2] at h; exact absurd h (by decide)
  irr := fun r _ => comp_irr _ r

set_option maxRecDepth 100000 in
set_option maxHeartbeats 4000000 in
theorem l2Other_any (v : Value) (g : List (List Int)) (hok : GOk g) (w : World) (hg : Gr w v g) :
    Calls Tryd.prog 86 #[v] w fun e w' => ∃ u, e = .returned u ∧ SG w' w.heap.size u (matG g.length (compE (ofG g))) ∧ Below w.heap.size w w' := by
  have hg0 := hg
  obtain ⟨u, rfl, hr⟩ := hg
  obtain ⟨gp, gc, rfl, _⟩ := hr.shape
  obtain ⟨W0, hW0⟩ : ∃ W0, W0 = (w.alloc (.cells #[.slice gp g.length gc] 29)).alloc (.cells #[.slice none 0 0] 29) := ⟨_, rfl⟩
  have hb0 : Below w.heap.size w W0 := by rw [hW0]; exact below_alloc2 _ _ _
  have hbg : Box W0 w.heap.size 29 (.slice gp g.length gc) := by rw [hW0]; exact (Box.new _ _ _).alloc _
  have hbn : Box W0 (w.heap.size + 1) 29 (.slice none 0 0) := by
    have := Box.new (w.alloc (.cells #[.slice gp g.length gc] 29)) (.slice none 0 0) 29
    rw [size_alloc] at this
    rw [hW0]; exact this
  have HW0 := Lib.hid hW0
  have HB0 := Lib.hid hb0
  have HBG := Lib.hid hbg
  have HBN := Lib.hid hbn
  have HG := Lib.hid (hg0.below hb0)
  have sz0 : W0.heap.size = w.heap.size + 2 := by rw [hW0, size_alloc, size_alloc]
  have h16 := hok.le
  have HSE := Lib.hid (symE_comp hok)
  have HOK := Lib.hid hok
  have cg0 := hbg.cell
  clear hr hg0 hb0 hbg hbn hok
  go_enter Tryd.func86, Tryd.ntmps86
  go_upto_region 1 with fail
  rw [← hW0]
  clear hW0
  go_upto_region 2 with (first
    | (go_at_call 157; refine (l1Empty_any _ g.length rfl (by omega) _).mono ?_; rintro e w3 ⟨u3, rfl, hs3, hb3⟩; obtain ⟨p, c, rfl⟩ := hs3.shape; rw [List.length_replicate] at hs3 ⊢)
    | (go_at_call 132; refine (l1Size_any _ g _ HG.out).mono ?_; rintro e w2 ⟨rfl, hb2⟩))
  have START : Hid (L2I W0 (w3.alloc (.cells #[.slice p g.length c] 29)) w3.heap.size p c g.length (matG g.length (uptoE (compE (ofG g)) 0 0))) := Lib.hid
    ⟨by rw [upto_start]; exact (hs3.base hb2.size).below (below_alloc _ _), (hb2.trans (hb3.mono hb2.size)).alloc (Nat.le_trans hb2.size hb3.size) _, Box.new _ _ _, fun k hk => ⟨Nat.le_trans hb2.size (hs3.lt k hk).1, (hs3.lt k hk).2⟩, Nat.le_trans hb2.size hb3.size⟩
  clear hs3 hb3 hb2 cg0
  go_wp2_with fail
  go_loopw [4] (fun i wr => ∃ k : Nat, k ≤ g.length ∧ i = .int .i64 k ∧ L2I W0 wr w3.heap.size p c g.length (matG g.length (uptoE (compE (ofG g)) k 0))) (fun i _ => g.length - (intOf i).toNat)
  case atStart => exact ⟨0, Nat.zero_le _, rfl, START.out⟩
  case round =>
    clear START
    obtain ⟨i, hi, rfl, hI⟩ := hrel
    have HI := Lib.hid hI
    clear hI
    have hcg := HI.out.bel.at (by omega) HBG.out.cell
    by_cases hlt : i < g.length
    · go_wp2_with (go_at_call 132; refine (l1Size_any _ g _ (HG.out.below HI.out.bel)).mono ?_; rintro e w4 ⟨rfl, hb4⟩; have HI4 := Lib.hid (HI.out.next hb4); clear hb4)
      clear hcg HI
      go_loopw [5] (fun i' wr => ∃ k : Nat, k ≤ i ∧ i' = .int .i64 k ∧ L2I W0 wr w3.heap.size p c g.length (matG g.length (uptoE (compE (ofG g)) i k))) (fun i' _ => i - (intOf i').toNat)
      case atStart => exact ⟨0, Nat.zero_le _, rfl, HI4.out⟩
      case round =>
        clear HI4
        obtain ⟨k, hk, rfl, hI⟩ := hrel
        have HI := Lib.hid hI
        clear hI
        by_cases hlt2 : k < i
        · have hcg := HI.out.bel.at (by omega) HBG.out.cell
          have hedge : Hid (dec ((i : Int) ∈ row g k) = !compE (ofG g) i k) := Lib.hid (by
            have h1 : ofG g i k = ofG g k i := by
              cases h : ofG g k i with
              | true => exact ofG_sym HOK.out _ _ h
              | false =>
                cases h2 : ofG g i k with
                | false => rfl
                | true => rw [ofG_sym HOK.out _ _ h2] at h; exact absurd h (by decide)
            have h2 : (i == k) = false := by simp; omega
            unfold compE
            rw [h2, h1]
            simp [ofG, decide_dec])
          have hkg : k < g.length := by omega
          have hml := matG_length g.length (uptoE (compE (ofG g)) i k)
          cases hE' : compE (ofG g) i k
          · have HD := Lib.hid (show dec ((i : Int) ∈ row g k) = true by rw [hedge.out, hE']; rfl)
            clear hedge
            go_wp2_with (go_at_call 109; refine (l1Edge_any _ g _ _ k i rfl rfl hkg _ (HG.out.below HI.out.bel)).mono ?_; rintro e w5 ⟨he, hb5⟩; rw [HD.out] at he; subst he; have HI5 := Lib.hid (HI.out.next hb5); clear hb5)
            go_roundw
            case rel => exact ⟨k + 1, by omega, by go_num, by rw [← upto_no HSE.out (by omega) hlt2 hE']; exact HI5.out⟩
            case measure => simp [intOf]; omega
          · have HD := Lib.hid (show dec ((i : Int) ∈ row g k) = false by rw [hedge.out, hE']; rfl)
            clear hedge
            go_wp2_with (first
              | (go_at_call 154; refine (Hlk.out _ rfl).mono ?_; rintro e w6 ⟨rfl, hs6, hg6⟩; have hbx := HI5.out.box.grown hg6 (fun e => by have := (HI5.out.own _ e.symm).2; omega); have hc6 := hbx.cell; have hf6 := hbx.free)
              | (go_at_call 109; refine (l1Edge_any _ g _ _ k i rfl rfl hkg _ (HG.out.below HI.out.bel)).mono ?_; rintro e w5 ⟨he, hb5⟩; rw [HD.out] at he; subst he; have HI5 := Lib.hid (HI.out.next hb5); clear hb5; have hb5 := HI5.out.box.cell; have hf5 := HI5.out.box.free; (have hlk : ∀ wz, wz = w5 → Calls Tryd.prog 154 #[.agg #[.slice p g.length c], .int .i64 k, .int .i64 i] wz fun e w' => e = .returned (.agg #[.slice p g.length c]) ∧ SG w' W0.heap.size (.agg #[.slice p g.length c]) (matG g.length (uptoE (compE (ofG g)) i (k + 1))) ∧ wz.grownBy w' (Value.slice p g.length c).ownBlock := (by
                  rintro wz rfl
                  have := l1Link_any p c (matG g.length (uptoE (compE (ofG g)) i k)) k i k i W0.heap.size rfl rfl (by omega) (by omega) (fun j _ => Nat.le_trans (matG_row_le j) (by omega)) wz (by rw [hml]; exact HI5.out.sg)
                  rw [hml, upto_yes HSE.out (by omega) hlt2 hE'] at this
                  exact this)); have Hlk := Lib.hid hlk; clear hlk))
            go_roundw
            case rel => exact ⟨k + 1, by omega, by go_num, HI5.out.link hs6 hg6⟩
            case measure => simp [intOf]; omega
        · obtain rfl : k = i := by omega
          go_wp2
          go_roundw
          case rel => exact ⟨k + 1, by omega, by go_num, by rw [← upto_row HSE.out]; exact HI.out⟩
          case measure => simp [intOf]; omega
    · obtain rfl : i = g.length := by omega
      go_wp2_with (go_at_call 132; refine (l1Size_any _ g _ (HG.out.below HI.out.bel)).mono ?_; rintro e w4 ⟨rfl, hb4⟩; have HI4 := Lib.hid (HI.out.next hb4); clear hb4; have hb5 := HI4.out.box.cell; have hbn := HI4.out.bel.at (by omega) HBN.out.cell; have hbf := (HI4.out.bel.frozen (p := ⟨w.heap.size + 1, 0, none⟩) (by show w.heap.size + 1 < _; omega)).trans HBN.out.free)
      have hbn2 := HBN.out.below HI4.out.bel (by omega)
      refine bodyPost_ret (v := .agg #[.slice p g.length c]) (by simp [results, Tryd.results86, go_sem, hbn]) rfl ⟨_, rfl, ?_, ?_⟩
      · have hs := (HI4.out.sg.setBox hbn2 (.slice p g.length c)).base (base' := w.heap.size) (by omega)
        rw [upto_end] at hs
        exact hs
      · exact (HB0.out.trans (HI4.out.bel.mono HB0.out.size)).setCell (by show w.heap.size ≤ w.heap.size + 1; omega) _


set_option maxRecDepth 100000 in
set_option maxHeartbeats 2000000 in
theorem specComplement_yes (v : Value) (g : List (List Int)) (hok : GOk g) (w : World) (hg : Gr w v g) :
    Calls Tryd.prog 14 #[v] w fun e w' => ∃ u, e = .returned (.tuple #[u, .bool true]) ∧ SG w' w.heap.size u (matG g.length (compE (ofG g))) ∧ Below w.heap.size w w' := by
  have hg0 := hg
  obtain ⟨u, rfl, hr⟩ := hg
  obtain ⟨gp, gc, rfl, _⟩ := hr.shape
  have hbA := Lib.hid (below_alloc2 w (.cells #[.slice gp g.length gc] 29) (.cells #[.slice none 0 0] 29))
  have BX := Lib.hid ((Box.new w (.slice gp g.length gc) 29).alloc (.cells #[.slice none 0 0] 29))
  have BN : Hid (Box ((w.alloc (.cells #[.slice gp g.length gc] 29)).alloc (.cells #[.slice none 0 0] 29)) (w.heap.size + 1) 29 (.slice none 0 0)) := by
    have := Box.new (w.alloc (.cells #[.slice gp g.length gc] 29)) (.slice none 0 0) 29
    rw [size_alloc] at this
    exact Lib.hid this
  have HG := Lib.hid (hg0.below hbA.out)
  have hd := dec_true hok
  have HOK := Lib.hid hok
  clear hr hg0 hok
  go_enter Tryd.func14, Tryd.ntmps14
  go_wp2_with (first
    | (go_at_call 73; refine (specGraphOk_any _ g _ HG.out).mono ?_; rintro e w2 ⟨he, hb2⟩; rw [hd] at he; subst he; have hbx := (BX.out.keep hb2).cell)
    | (go_at_call 86; refine (l2Other_any _ g HOK.out _ (HG.out.below hb2)).mono ?_; rintro e w3 ⟨u3, rfl, hs3, hb3⟩; obtain ⟨p3, c3, rfl⟩ := hs3.shape; have hbn := (BN.out.keep hb2).keep hb3; obtain ⟨hnc, hnf, hnl, hnB⟩ := hbn))
  have h0 := hbA.out.size
  have h2 := hb2.size
  rw [size_alloc, size_alloc] at h2
  refine bodyPost_ret (v := .tuple #[.agg #[.slice p3 (matG g.length (compE (ofG g))).length c3], .bool true]) (by simp [results, Tryd.results14, go_sem, hnc]) rfl ⟨_, rfl, ?_, ?_⟩
  · exact (hs3.setBox ⟨hnc, hnf, hnl, hnB⟩ _).base (by omega)
  · exact ((hbA.out.trans (hb2.mono hbA.out.size)).trans (hb3.mono (Nat.le_trans hbA.out.size hb2.size))).setCell (by show w.heap.size ≤ w.heap.size + 1; omega) _

end Go.Proofs.YtkppbmfliejnmaaDoor
