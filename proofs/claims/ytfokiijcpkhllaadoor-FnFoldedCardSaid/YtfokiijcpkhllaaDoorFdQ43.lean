/- Walks: the reference's TreeWidth of a right graph of ten vertices at most. -/
import Derived.Test.YtfokiijcpkhllaaDoorFdQ39
import Derived.Test.YtfokiijcpkhllaaDoorFdQ42
namespace Go.Proofs.YtfokiijcpkhllaaDoor
open Go.RowKit

set_option maxRecDepth 100000 in
set_option maxHeartbeats 2000000 in
theorem l10Table_any (v : Value) (g : List (List Int)) (hok : GOk g) (w : World) (hg : Gr w v g) :
    Calls Tryd.prog 121 #[v] w fun e w' => ∃ kb, e = .returned (.slice (some ⟨kb, 0, none⟩) (2 ^ g.length) (2 ^ g.length)) ∧ w'.ownsRow w.heap.size 2 1 (.slice (some ⟨kb, 0, none⟩) (2 ^ g.length) (2 ^ g.length)) (2 ^ g.length) ((List.replicate (2 ^ g.length) (-1 : Int)).map (Value.int .i64)) ∧ Below w.heap.size w w' := by
  have h16 := hok.le
  have hg0 := hg
  obtain ⟨gu, rfl, hr⟩ := hg
  obtain ⟨p, c, rfl, _⟩ := hr.shape
  obtain ⟨W0, hW0⟩ : ∃ W0, W0 = w.alloc (.cells #[.slice p g.length c] 29) := ⟨_, rfl⟩
  have HB0 : Hid (Below w.heap.size w W0) := Lib.hid (by rw [hW0]; exact below_alloc _ _)
  have HBG : Hid (Box W0 w.heap.size 29 (.slice p g.length c)) := Lib.hid (by rw [hW0]; exact Box.new _ _ _)
  have HG := Lib.hid (hg0.below HB0.out)
  have SZ0 : Hid (W0.heap.size = w.heap.size + 1) := Lib.hid (by rw [hW0, size_alloc])
  clear hr hg0 hok
  go_enter Tryd.func121, Tryd.ntmps121
  go_upto_region 1 with fail
  rw [← hW0]
  clear hW0
  go_wp2_with fail
  go_loopw [3, 4] (fun sv iv wr => ∃ k : Nat, k ≤ g.length ∧ iv = .int .i64 k ∧ Hid (sv = .int .i64 ((2 ^ k : Nat) : Int)) ∧ Below W0.heap.size W0 wr) (fun _ iv _ => g.length - (intOf iv).toNat)
  case atStart => exact ⟨0, Nat.zero_le _, rfl, Lib.hid rfl, Below.refl _ _⟩
  case round =>
    obtain ⟨k, hk, rfl, hsv, hb⟩ := hrel
    have HB := Lib.hid hb
    have hcg := hb.at (by have := SZ0.out; omega) HBG.out.cell
    obtain ⟨q, hq⟩ : ∃ q, q = 2 ^ k := ⟨_, rfl⟩
    have hsv' := hsv.out
    rw [← hq] at hsv'
    subst hsv'
    have hq16 : q ≤ 65536 := by rw [hq]; exact Nat.le_trans (Nat.pow_le_pow_right (by omega) (show k ≤ 16 by omega)) (Nat.le_refl _)
    have HQ := Lib.hid hq
    clear hsv hb hq
    by_cases hlt : k < g.length
    · have hwr : IntKind.i64.wrap ((q : Int) * 2) = ((q * 2 : Nat) : Int) := by rw [IntKind.wrap_i64]; omega
      go_wp2_with (go_at_call 60; refine (l1Size_any _ g _ (HG.out.below HB.out)).mono ?_; rintro e w2 ⟨rfl, hb2⟩; have HB2 := Lib.hid (HB.out.trans (hb2.mono HB.out.size)); clear hb2)
      go_roundw
      case rel => exact ⟨k + 1, by omega, by go_num, Lib.hid (by rw [Nat.pow_succ, ← HQ.out]; first | rfl | (congr 1)), HB2.out⟩
      case measure => simp [intOf]; omega
    · obtain rfl : k = g.length := by omega
      have hq1 : 1 ≤ q := by rw [HQ.out]; exact Nat.one_le_two_pow
      go_upto_region 7 with (first
        | (go_at_call 60; refine (l1Size_any _ g _ (HG.out.below HB.out)).mono ?_; rintro e w2 ⟨rfl, hb2⟩; have HB2 := Lib.hid (HB.out.trans (hb2.mono HB.out.size)); clear hb2)
        | (at_make; refine wpList_mk ty_i64 rfl rfl rfl q rfl rfl (by rfl) (by rfl) (by omega) ?_; intro w3 hown3 hg3))
      have HO3 : Hid (w3.ownsRow w2.heap.size 2 1 (.slice (some ⟨w2.heap.size, 0, none⟩) q q) q ((List.replicate 0 (-1 : Int) ++ List.replicate (q - 0) 0).map (Value.int .i64))) := Lib.hid (by
        have e : (List.replicate 0 (-1 : Int) ++ List.replicate (q - 0) 0).map (Value.int .i64) = List.replicate q (Value.int .i64 0) := by simp
        rw [e]; exact hown3)
      have HB3 : Hid (Below W0.heap.size W0 w3) := Lib.hid (HB2.out.trans ((grown_below hg3).mono HB2.out.size))
      obtain ⟨kb, hkb⟩ : ∃ kb, kb = w2.heap.size := ⟨_, rfl⟩
      have hkb0 : W0.heap.size ≤ kb := by rw [hkb]; exact HB2.out.size
      rw [← hkb] at HO3 ⊢
      clear hown3 hg3 hkb hcg HB
      go_wp2_with fail
      go_loopw [6] (fun iv wr => ∃ k : Nat, k ≤ q ∧ iv = .int .i64 k ∧ Hid (wr.ownsRow kb 2 1 (.slice (some ⟨kb, 0, none⟩) q q) q ((List.replicate k (-1 : Int) ++ List.replicate (q - k) 0).map (Value.int .i64))) ∧ Hid (Below W0.heap.size W0 wr)) (fun iv _ => q - (intOf iv).toNat)
      case atStart => exact ⟨0, Nat.zero_le _, rfl, HO3, HB3⟩
      case round =>
        clear HO3 HB3
        obtain ⟨k, hk, rfl, HO, HB⟩ := hrel
        by_cases hlt : k < q
        · have hck : wr.cell? ⟨kb, k, none⟩ = some (.int .i64 0) := by
            rw [HO.out.cellAt k (by omega)]
            rw [List.getElem?_map, List.getElem?_append_right (by simp), List.length_replicate, Nat.sub_self, List.getElem?_replicate, if_pos (by omega)]
            rfl
          have hfk := HO.out.frozenAt k
          have HS : Hid ((wr.setCell ⟨kb, k, none⟩ (.int .i64 (-1))).ownsRow kb 2 1 (.slice (some ⟨kb, 0, none⟩) q q) q ((List.replicate (k + 1) (-1 : Int) ++ List.replicate (q - (k + 1)) 0).map (Value.int .i64))) := Lib.hid (by
            have h := (HO.out.stored k (.int .i64 (-1))).1
            rw [← List.map_set] at h
            have e : (List.replicate k (-1 : Int) ++ List.replicate (q - k) 0).set k (-1) = List.replicate (k + 1) (-1 : Int) ++ List.replicate (q - (k + 1)) 0 := by
              rw [List.set_append_right _ _ (by simp)]
              obtain ⟨d, hd⟩ : ∃ d, q - k = d + 1 := ⟨q - k - 1, by omega⟩
              rw [hd, List.replicate_succ, show q - (k + 1) = d by omega, List.replicate_succ']
              simp
            rwa [e] at h)
          have HBS : Hid (Below W0.heap.size W0 (wr.setCell ⟨kb, k, none⟩ (.int .i64 (-1)))) := Lib.hid (HB.out.setCell (p := ⟨kb, k, none⟩) hkb0 _)
          go_wp2_with fail
          go_roundw
          case rel => exact ⟨k + 1, by omega, by go_num, HS, HBS⟩
          case measure => simp [intOf]; omega
        · obtain rfl : k = q := by omega
          go_wp2_with fail
          go_ret
          rw [← HQ.out]
          refine ⟨kb, rfl, ?_, HB0.out.trans (HB.out.mono HB0.out.size)⟩
          have h := HO.out
          rw [Nat.sub_self, List.replicate_zero, List.append_nil] at h
          exact ownsRow_base h (by have := SZ0.out; omega)
set_option maxRecDepth 100000 in
set_option maxHeartbeats 1000000 in
theorem l10Marks_none (v : Value) (lp : Option Addr) (lc : Nat) (g : List (List Int)) (hok : GOk g) (w : World) (hg : Gr w v g) :
    Calls Tryd.prog 120 #[v, .slice lp 0 lc] w fun e w' => ∃ gb, e = .returned (.slice (some ⟨gb, 0, none⟩) g.length g.length) ∧ w'.ownsRow w.heap.size 4 1 (.slice (some ⟨gb, 0, none⟩) g.length g.length) g.length (boolsOf g.length (Nat.testBit 0)) ∧ Below w.heap.size w w' := by
  have h16 := hok.le
  have hg0 := hg
  obtain ⟨gu, rfl, hr⟩ := hg
  obtain ⟨p, c, rfl, _⟩ := hr.shape
  obtain ⟨W0, hW0⟩ : ∃ W0, W0 = w.alloc (.cells #[.slice p g.length c] 29) := ⟨_, rfl⟩
  have HB0 : Hid (Below w.heap.size w W0) := Lib.hid (by rw [hW0]; exact below_alloc _ _)
  have HBG : Hid (Box W0 w.heap.size 29 (.slice p g.length c)) := Lib.hid (by rw [hW0]; exact Box.new _ _ _)
  have HG := Lib.hid (hg0.below HB0.out)
  have hcg := HBG.out.cell
  have e0 : List.replicate g.length (Value.bool false) = boolsOf g.length (Nat.testBit 0) := List.ext_getElem (by simp [boolsOf]) fun j h1 h2 => by simp [boolsOf]
  have E0 := Lib.hid e0
  clear hr hg0 hok e0
  go_enter Tryd.func120, Tryd.ntmps120
  go_upto_region 1 with fail
  rw [← hW0]
  clear hW0
  go_upto_region 2 with (first
    | (go_at_call 60; refine (l1Size_any _ g _ HG.out).mono ?_; rintro e w2 ⟨rfl, hb2⟩; have HB2 := Lib.hid hb2; clear hb2)
    | (at_make; refine wpList_mk ty_bool rfl rfl rfl g.length rfl rfl rfl rfl (by omega) ?_; intro w3 hown3 hg3; have HO3 := Lib.hid hown3; have HB3 := Lib.hid (HB2.out.trans ((grown_below hg3).mono HB2.out.size)); clear hown3 hg3))
  have s2 := HB2.out.size
  have s0 := HB0.out.size
  go_wp2_with fail
  refine wp_loop_rounds 1 ?_
  rw [rounds_succ]
  go_wp2_with fail
  go_ret
  exact ⟨_, rfl, ownsRow_base (by rw [← E0.out]; exact HO3.out) (by omega), HB0.out.trans (HB3.out.mono s0)⟩
set_option maxRecDepth 100000 in
set_option maxHeartbeats 1000000 in
theorem l10Wide_yes (v : Value) (g : List (List Int)) (hok : GOk g) (h10 : g.length ≤ 10) (w : World) (hg : Gr w v g) :
    Calls Tryd.prog 118 #[v] w fun e w' => e = .returned (.bool true) ∧ Below w.heap.size w w' := by
  have hg0 := hg
  obtain ⟨gu, rfl, hr⟩ := hg
  obtain ⟨p, c, rfl, _⟩ := hr.shape
  obtain ⟨W0, hW0⟩ : ∃ W0, W0 = w.alloc (.cells #[.slice p g.length c] 29) := ⟨_, rfl⟩
  have HB0 : Hid (Below w.heap.size w W0) := Lib.hid (by rw [hW0]; exact below_alloc _ _)
  have HBG : Hid (Box W0 w.heap.size 29 (.slice p g.length c)) := Lib.hid (by rw [hW0]; exact Box.new _ _ _)
  have HG := Lib.hid (hg0.below HB0.out)
  have hcg := HBG.out.cell
  have HD := Lib.hid (dec_true hok)
  have s0 := HB0.out.size
  clear hr hg0 hok
  go_enter Tryd.func118, Tryd.ntmps118
  go_upto_region 1 with fail
  rw [← hW0]
  clear hW0
  go_wp2_with (first
    | (go_at_call 50; refine (specGraphOk_any _ g _ HG.out).mono ?_; rintro e w2 ⟨he, hb2⟩; rw [HD.out] at he; subst he; have hcg2 := hb2.at' hcg; have HB2 := Lib.hid hb2; clear hb2)
    | (go_at_call 60; refine (l1Size_any _ g _ (HG.out.below HB2.out)).mono ?_; rintro e w3 ⟨rfl, hb3⟩; have HB3 := Lib.hid (HB2.out.trans (hb3.mono HB2.out.size)); clear hb3))
  go_ret
  exact ⟨ret_bool (decide_eq_true (by omega)), HB0.out.trans (HB3.out.mono s0)⟩
theorem kok_start (n : Nat) (E : Nat → Nat → Bool) : KOk n E (2 ^ n) (List.replicate (2 ^ n) (-1)) := ⟨by simp, rfl, fun c hc => .inl (by simp [hc])⟩
set_option maxRecDepth 100000 in
set_option maxHeartbeats 4000000 in
theorem specWidthFrom_none (v : Value) (lp : Option Addr) (lc : Nat) (g : List (List Int)) (hok : GOk g) (h10 : g.length ≤ 10) (w : World) (hg : Gr w v g) (hn : Nums w 2 .i64 (.slice lp 0 lc) []) :
    Calls Tryd.prog 65 #[v, .slice lp 0 lc] w fun e w' => e = .returned (.int .i64 (twS g.length (ofG g) 0 : Int)) ∧ Below w.heap.size w w' := by
  have hg0 := hg
  obtain ⟨gu, rfl, hr⟩ := hg
  obtain ⟨p, c, rfl, _⟩ := hr.shape
  obtain ⟨W0, hW0⟩ : ∃ W0, W0 = w.alloc (.cells #[.slice p g.length c] 29) := ⟨_, rfl⟩
  have HB0 : Hid (Below w.heap.size w W0) := Lib.hid (by rw [hW0]; exact below_alloc _ _)
  have HBG : Hid (Box W0 w.heap.size 29 (.slice p g.length c)) := Lib.hid (by rw [hW0]; exact Box.new _ _ _)
  have HG := Lib.hid (hg0.below HB0.out)
  have HN := Lib.hid (hn.below HB0.out)
  have hcg := HBG.out.cell
  have HOK := Lib.hid hok
  have s0 := HB0.out.size
  have HD := Lib.hid (dec_true (setIn_nil (g.length : Int)))
  obtain ⟨N, hN⟩ : ∃ N, N = 2 ^ g.length := ⟨_, rfl⟩
  have HNN := Lib.hid hN
  have HKO : Hid (KOk g.length (ofG g) N (List.replicate N (-1))) := Lib.hid (by rw [hN]; exact kok_start _ _)
  have HTB : Hid (∀ w v, Gr w v g → Calls Tryd.prog 121 #[v] w fun e w' => ∃ kb, e = .returned (.slice (some ⟨kb, 0, none⟩) N N) ∧ w'.ownsRow w.heap.size 2 1 (.slice (some ⟨kb, 0, none⟩) N N) N ((List.replicate N (-1 : Int)).map (Value.int .i64)) ∧ Below w.heap.size w w') := Lib.hid (fun w v h => by rw [hN]; exact l10Table_any v g hok w h)
  have HN1 : Hid (0 < N) := Lib.hid (by rw [hN]; exact Nat.one_le_two_pow)
  have h16 := hok.le
  clear hr hg0 hok hn hN
  go_enter Tryd.func65, Tryd.ntmps65
  go_upto_region 1 with fail
  rw [← hW0]
  clear hW0
  go_upto_region 3 with (first
    | (go_at_call 118; refine (l10Wide_yes _ g HOK.out h10 _ HG.out).mono ?_; rintro e w2 ⟨rfl, hb2⟩; have hcg2 := hb2.at' hcg; have HB2 := Lib.hid hb2; clear hb2)
    | (go_at_call 60; refine (l1Size_any _ g _ (HG.out.below HB2.out)).mono ?_; rintro e w3 ⟨rfl, hb3⟩; have HB3 := Lib.hid (HB2.out.trans (hb3.mono HB2.out.size)); have hcg3 := hb3.at' hcg2; clear hb3 hcg2)
    | (go_at_call 103; refine (l1Set_any _ [] _ (by omega) (by omega) _ (HN.out.below HB3.out)).mono ?_; rintro e w4 ⟨he, hb4⟩; rw [HD.out] at he; subst he; have HB4 := Lib.hid (HB3.out.trans (hb4.mono HB3.out.size)); have hcg4 := hb4.at' hcg3; clear hb4 hcg3))
  clear hcg
  have HG4 := Lib.hid (HG.out.below HB4.out)
  have s4 := HB4.out.size
  go_region_held3 (fun w' => w'.cell? ⟨w.heap.size, 0, none⟩ = some (.slice p g.length c))
    (first | exact hcg4 | exact HZ.out.at' hcg4 | go_keep | exact BM.at' hcg4 | exact BT.at' hcg4 | exact HBL.out.at' hcg4)
    (first
      | (go_at_call 120; refine (l10Marks_none _ _ _ g HOK.out _ (HG4.out.below BT)).mono ?_; rintro e wf ⟨gb, rfl, ho, hb⟩; have HBL : Hid (Below w4.heap.size w4 wf) := Lib.hid (BT.trans (hb.mono BT.size)); have HLF : Hid (LfR wf w4.heap.size wf.heap.size gb kb g.length N 0 (List.replicate N (-1))) := Lib.hid ⟨ownsRow_base ho BT.size, ownsRow_below HT.out hb, fun e => (by have h1 := (ho.lt gb rfl).1; have h2 := (HT.out.lt kb rfl).2; omega), (ho.lt gb rfl).2, Nat.lt_of_lt_of_le (HT.out.lt kb rfl).2 hb.size, Nat.le_refl _⟩; clear ho hb)
      | (go_at_call 120; refine (l10Marks_none _ _ _ g HOK.out _ (HG4.out.below (below_dN (Below.refl _ _) 1))).mono ?_; rintro e wm ⟨gb, rfl, ho, hb⟩; have BM : Below w4.heap.size w4 wm := (below_dN (Below.refl _ _) 1).trans hb; have HM : Hid (wm.ownsRow w4.heap.size 4 1 (.slice (some ⟨gb, 0, none⟩) g.length g.length) g.length (boolsOf g.length (Nat.testBit 0))) := Lib.hid ho; clear ho hb)
      | (go_at_call 121; refine (HTB.out _ _ (HG4.out.below BM)).mono ?_; rintro e wf ⟨kb, rfl, ho, hb⟩; have HBL : Hid (Below w4.heap.size w4 wf) := Lib.hid (BM.trans (hb.mono BM.size)); have HLF : Hid (LfR wf w4.heap.size wf.heap.size gb kb g.length N 0 (List.replicate N (-1))) := Lib.hid ⟨ownsRow_below HM.out hb, ownsRow_base ho BM.size, fun e => (by have h1 := (ho.lt kb rfl).1; have h2 := (HM.out.lt gb rfl).2; omega), Nat.lt_of_lt_of_le (HM.out.lt gb rfl).2 hb.size, (ho.lt kb rfl).2, Nat.le_refl _⟩; clear ho hb)
      | (go_at_call 121; refine (HTB.out _ _ (HG4.out.below (below_dN (Below.refl _ _) 1))).mono ?_; rintro e wt ⟨kb, rfl, ho, hb⟩; have BT : Below w4.heap.size w4 wt := (below_dN (Below.refl _ _) 1).trans hb; have HT : Hid (wt.ownsRow w4.heap.size 2 1 (.slice (some ⟨kb, 0, none⟩) N N) N ((List.replicate N (-1 : Int)).map (Value.int .i64))) := Lib.hid ho; clear ho hb)
      | (go_at_call 119; refine (l10From_any _ g HOK.out w4.heap.size wf.heap.size gb kb N HNN.out w4 (Nat.le_refl _) HG4.out _ 0 (List.replicate N (-1)) _ rfl HN1.out HKO.out HLF.out HBL.out).mono ?_; rintro e wz ⟨rfl, K', _, _, ha⟩; have HZ : Hid (Below w4.heap.size w4 wz) := Lib.hid (HBL.out.trans (ha.below HBL.out.size)); clear ha))
  all_goals go_wp2
  all_goals go_ret
  all_goals exact ⟨rfl, HB0.out.trans ((HB4.out.trans (HZ.out.mono s4)).mono s0)⟩
set_option maxRecDepth 100000 in
set_option maxHeartbeats 1000000 in
theorem specTreeWidth_any (v : Value) (g : List (List Int)) (hok : GOk g) (h10 : g.length ≤ 10) (w : World) (hg : Gr w v g) :
    Calls Tryd.prog 20 #[v] w fun e w' => e = .returned (.int .i64 (twS g.length (ofG g) 0 : Int)) ∧ Below w.heap.size w w' := by
  have hg0 := hg
  obtain ⟨gu, rfl, hr⟩ := hg
  obtain ⟨p, c, rfl, _⟩ := hr.shape
  obtain ⟨W0, hW0⟩ : ∃ W0, W0 = w.alloc (.cells #[.slice p g.length c] 29) := ⟨_, rfl⟩
  have HB0 : Hid (Below w.heap.size w W0) := Lib.hid (by rw [hW0]; exact below_alloc _ _)
  have HBG : Hid (Box W0 w.heap.size 29 (.slice p g.length c)) := Lib.hid (by rw [hW0]; exact Box.new _ _ _)
  have HG := Lib.hid ((hg0.below HB0.out).below (below_alloc W0 (.cells #[] 2)))
  have HN : Hid (Nums (W0.alloc (.cells #[] 2)) 2 .i64 (.slice (some ⟨W0.heap.size, 0, none⟩) 0 0) []) := Lib.hid (Nums.of_owns (ownsRow_empty W0 2 1) rfl (by omega))
  have HBA := Lib.hid (below_alloc W0 (.cells #[] 2))
  have hcg := HBG.out.cell
  have HOK := Lib.hid hok
  have s0 := HB0.out.size
  clear hr hg0 hok
  go_enter Tryd.func20, Tryd.ntmps20
  go_upto_region 1 with fail
  rw [← hW0]
  clear hW0
  go_wp2_with (go_at_call 65; refine (specWidthFrom_none _ _ _ g HOK.out h10 _ HG.out HN.out).mono ?_; rintro e w2 ⟨rfl, hb2⟩; have HB2 := Lib.hid (HBA.out.trans (hb2.mono HBA.out.size)); clear hb2)
  go_ret
  exact ⟨rfl, HB0.out.trans (HB2.out.mono s0)⟩

end Go.Proofs.YtfokiijcpkhllaaDoor
