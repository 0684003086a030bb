/- Walks: the reference's TreeWidth of a right graph of ten vertices at most. -/
import Derived.Test.YtfokiijcpkhllaaDoorFuQ44
import Derived.Test.YtfokiijcpkhllaaDoorFuQ31
import Derived.Test.YtfokiijcpkhllaaDoorFuQ35
import Derived.Test.YtfokiijcpkhllaaDoorFuQ42
import Derived.Test.YtfokiijcpkhllaaDoorFuQ30
import Derived.Test.YtfokiijcpkhllaaDoorFuQ11
import Derived.Test.YtfokiijcpkhllaaDoorFuQ28
import Derived.Test.YtfokiijcpkhllaaDoorFuQ3
namespace Go.Proofs.YtfokiijcpkhllaaDoor
open Go.RowKit

set_option maxRecDepth 100000 in
set_option maxHeartbeats 2000000 in
theorem l10Table_any (v : Value) (g : List (List Int)) (hok : GOk g) (w : World) (hg : Gr w v g) :
    Calls Tryd.prog 121 #[v] w fun e w' => ∃ kb, e = .returned (.slice (some ⟨kb, 0, none⟩) (2 ^ g.length) (2 ^ g.length)) ∧ w'.ownsRow w.heap.size 2 1 (.slice (some ⟨kb, 0, none⟩) (2 ^ g.length) (2 ^ g.length)) (2 ^ g.length) ((List.replicate (2 ^ g.length) (-1 : Int)).map (Value.int .i64)) ∧ Below w.heap.size w w' := by
  have h16 := hok.le
  have hg0 := hg
  obtain ⟨gu, rfl, hr⟩ := hg
  obtain ⟨p, c, rfl, _⟩ := hr.shape
  obtain ⟨W0, hW0⟩ : ∃ W0, W0 = w.alloc (.cells #[.slice p g.length c] 29) := ⟨_, rfl⟩
  have HB0 : Hid (Below w.heap.size w W0) := Lib.hid (by rw [hW0]; exact below_alloc _ _)
  have HBG : Hid (Box W0 w.heap.size 29 (.slice p g.length c)) := Lib.hid (by rw [hW0]; exact Box.new _ _ _)
  have HG := Lib.hid (hg0.below HB0.out)
  have SZ0 : Hid (W0.heap.size = w.heap.size + 1) := Lib.hid (by rw [hW0, size_alloc])
  clear hr hg0 hok
  go_enter Tryd.func121, Tryd.ntmps121
  go_upto_region 1 with fail
  rw [← hW0]
  clear hW0
  go_wp2_with fail
  go_loopw [3, 4] (fun sv iv wr => ∃ k : Nat, k ≤ g.length ∧ iv = .int .i64 k ∧ Hid (sv = .int .i64 ((2 ^ k : Nat) : Int)) ∧ Below W0.heap.size W0 wr) (fun _ iv _ => g.length - (intOf iv).toNat)
  case atStart => exact ⟨0, Nat.zero_le _, rfl, Lib.hid rfl, Below.refl _ _⟩
  case round =>
    obtain ⟨k, hk, rfl, hsv, hb⟩ := hrel
    have HB := Lib.hid hb
    have hcg := hb.at (by have := SZ0.out; omega) HBG.out.cell
    obtain ⟨q, hq⟩ : ∃ q, q = 2 ^ k := ⟨_, rfl⟩
    have hsv' := hsv.out
    rw [← hq] at hsv'
    subst hsv'
    have hq16 : q ≤ 65536 := by rw [hq]; exact Nat.le_trans (Nat.pow_le_pow_right (by omega) (show k ≤ 16 by omega)) (Nat.le_refl _)
    have HQ := Lib.hid hq
    clear hsv hb hq
    by_cases hlt : k < g.length
    · have hwr : IntKind.i64.wrap ((q : Int) * 2) = ((q * 2 : Nat) : Int) := by rw [IntKind.wrap_i64]; omega
      go_wp2_with (go_at_call 60; refine (l1Size_any _ g _ (HG.out.below HB.out)).mono ?_; rintro e w2 ⟨rfl, hb2⟩; have HB2 := Lib.hid (HB.out.trans (hb2.mono HB.out.size)); clear hb2)
      go_roundw
      case rel => exact ⟨k + 1, by omega, by go_num, Lib.hid (by rw [Nat.pow_succ, ← HQ.out]; first | rfl | (congr 1)), HB2.out⟩
      case measure => simp [intOf]; omega
    · obtain rfl : k = g.length := by omega
      have hq1 : 1 ≤ q := by rw [HQ.out]; exact Nat.one_le_two_pow
      go_upto_region 7 with (first
        | (go_at_call 60; refine (l1Size_any _ g _ (HG.out.below HB.out)).mono ?_; rintro e w2 ⟨rfl, hb2⟩; have HB2 := Lib.hid (HB.out.trans (hb2.mono HB.out.size)); clear hb2)
        | (at_make; refine wpList_mk ty_i64 rfl rfl rfl q rfl rfl (by rfl) (by rfl) (by omega) ?_; intro w3 hown3 hg3))
      have HO3 : Hid (w3.ownsRow w2.heap.size 2 1 (.slice (some ⟨w2.heap.size, 0, none⟩) q q) q ((List.replicate 0 (-1 : Int) ++ List.replicate (q - 0) 0).map (Value.int .i64))) := Lib.hid (by
        have e : (List.replicate 0 (-1 : Int) ++ List.replicate (q - 0) 0).map (Value.int .i64) = List.replicate q (Value.int .i64 0) := by simp
        rw [e]; exact hown3)
      have HB3 : Hid (Below W0.heap.size W0 w3) := Lib.hid (HB2.out.trans ((grown_below hg3).mono HB2.out.size))
      obtain ⟨kb, hkb⟩ : ∃ kb, kb = w2.heap.size := ⟨_, rfl⟩
      have hkb0 : W0.heap.size ≤ kb := by rw [hkb]; exact HB2.out.size
      rw [← hkb] at HO3 ⊢
      clear hown3 hg3 hkb hcg HB
      go_wp2_with fail
      go_loopw [6] (fun iv wr => ∃ k : Nat, k ≤ q ∧ iv = .int .i64 k ∧ Hid (wr.ownsRow kb 2 1 (.slice (some ⟨kb, 0, none⟩) q q) q ((List.replicate k (-1 : Int) ++ List.replicate (q - k) 0).map (Value.int .i64))) ∧ Hid (Below W0.heap.size W0 wr)) (fun iv _ => q - (intOf iv).toNat)
      case atStart => exact ⟨0, Nat.zero_le _, rfl, HO3, HB3⟩
      case round =>
        clear HO3 HB3
        obtain ⟨k, hk, rfl, HO, HB⟩ := hrel
        by_cases hlt : k < q
        · have hck : wr.cell? ⟨kb, k, none⟩ = some (.int .i64 0) := by
            rw [HO.out.cellAt k (by omega)]
            rw [List.getElem?_map, List.getElem?_append_right (by simp), List.length_replicate, Nat.sub_self, List.getElem?_replicate, if_pos (by omega)]
            rfl
          have hfk := HO.out.frozenAt k
          have HS : Hid ((wr.setCell ⟨kb, k, none⟩ (.int .i64 (-1))).ownsRow kb 2 1 (.slice (some ⟨kb, 0, none⟩) q q) q ((List.replicate (k + 1) (-1 : Int) ++ List.replicate (q - (k + 1)) 0).map (Value.int .i64))) := Lib.hid (by
            have h := (HO.out.stored k (.int .i64 (-1))).1
            rw [← List.map_set] at h
            have e : (List.replicate k (-1 : Int) ++ List.replicate (q - k) 0).set k (-1) = List.replicate (k + 1) (-1 : Int) ++ List.replicate (q - (k + 1)) 0 := by
              rw [List.set_append_right _ _ (by simp)]
              obtain ⟨d, hd⟩ : ∃ d, q - k = d + 1 := ⟨q - k - 1, by omega⟩
              rw [hd, List.replicate_succ, show q - (k + 1) = d by omega, List.replicate_succ']
              simp
            rwa [e] at h)
          have HBS : Hid (Below W0.heap.size W0 (wr.setCell ⟨kb, k, none⟩ (.int .i64 (-1)))) := Lib.hid (HB.out.setCell (p := ⟨kb, k, none⟩) hkb0 _)
          go_wp2_with fail
          go_roundw
          case rel => exact ⟨k + 1, by omega, by go_num, HS, HBS⟩
          case measure => simp [intOf]; omega
        · obtain rfl : k = q := by omega
          go_wp2_with fail
          go_ret
          rw [← HQ.out]
          refine ⟨kb, rfl, ?_, HB0.out.trans (HB.out.mono HB0.out.size)⟩
          have h := HO.out
          rw [Nat.sub_self, List.replicate_zero, List.append_nil] at h
          exact ownsRow_base h (by have := SZ0.out; omega)
set_option maxRecDepth 100000 in
set_option maxHeartbeats 1000000 in
theorem l10Marks_none (v : Value) (lp : Option Addr) (lc : Nat) (g : List (List Int)) (hok : GOk g) (w : World) (hg : Gr w v g) :
    Calls Tryd.prog 120 #[v, .slice lp 0 lc] w fun e w' => ∃ gb, e = .returned (.slice (some ⟨gb, 0, none⟩) g.length g.length) ∧ w'.ownsRow w.heap.size 4 1 (.slice (some ⟨gb, 0, none⟩) g.length g.length) g.length (boolsOf g.length (Nat.testBit 0)) ∧ Below w.heap.size w w' := by
  have h16 := hok.le
  have hg0 := hg
  obtain ⟨gu, rfl, hr⟩ := hg
  obtain ⟨p, c, rfl, _⟩ := hr.shape
  obtain ⟨W0, hW0⟩ : ∃ W0, W0 = w.alloc (.cells #[.slice p g.length c] 29) := ⟨_, rfl⟩
  have HB0 : Hid (Below w.heap.size w W0) := Lib.hid (by rw [hW0]; exact below_alloc _ _)
  have HBG : Hid (Box W0 w.heap.size 29 (.slice p g.length c)) := Lib.hid (by rw [hW0]; exact Box.new _ _ _)
  have HG := Lib.hid (hg0.below HB0.out)
  have hcg := HBG.out.cell
  have e0 : List.replicate g.length (Value.bool false) = boolsOf g.length (Nat.testBit 0) := List.ext_getElem (by simp [boolsOf]) fun j h1 h2 => by simp [boolsOf]
  have E0 := Lib.hid e0
  clear hr hg0 hok e0
  go_enter Tryd.func120, Tryd.ntmps120
  go_upto_region 1 with fail
  rw [← hW0]
  clear hW0
  go_upto_region 2 with (first
    | (go_at_call 60; refine (l1Size_any _ g _ HG.out).mono ?_; rintro e w2 ⟨rfl, hb2⟩; have HB2 := Lib.hid hb2; clear hb2)
    | (at_make; refine wpList_mk ty_bool rfl rfl rfl g.length rfl rfl rfl rfl (by omega) ?_; intro w3 hown3 hg3; have HO3 := Lib.hid hown3; have HB3 := Lib.hid (HB2.out.trans ((grown_below hg3).mono HB2.out.size)); clear hown3 hg3))
  have s2 := HB2.out.size
  have s0 := HB0.out.size
  go_wp2_with fail
  refine wp_loop_rounds 1 ?_
  rw [rounds_succ]
  go_wp2_with fail
  go_ret
  exact ⟨_, rfl, ownsRow_base (by rw [← E0.out]; exact HO3.out) (by omega), HB0.out.trans (HB3.out.mono s0)⟩
set_option maxRecDepth 100000 in
set_option maxHeartbeats 1000000 in
theorem l10Wide_yes (v : Value) (g : List (List Int)) (hok : GOk g) (h10 : g.length ≤ 10) (w : World) (hg : Gr w v g) :
    Calls Tryd.prog 118 #[v] w fun e w' => e = .returned (.bool true) ∧ Below w.heap.size w w' := by
  have hg0 := hg
  obtain ⟨gu, rfl, hr⟩ := hg
  obtain ⟨p, c, rfl, _⟩ := hr.shape
  obtain ⟨W0, hW0⟩ : ∃ W0, W0 = w.alloc (.cells #[.slice p g.length c] 29) := ⟨_, rfl⟩
  have HB0 : Hid (Below w.heap.size w W0) := Lib.hid (by rw [hW0]; exact below_alloc _ _)
  have HBG : Hid (Box W0 w.heap.size 29 (.slice p g.length c)) := Lib.hid (by rw [hW0]; exact Box.new _ _ _)
  have HG := Lib.hid (hg0.below HB0.out)
  have hcg := HBG.out.cell
  have HD := Lib.hid (dec_true hok)
  have s0 := HB0.out.size
  clear hr hg0 hok
  go_enter Tryd.func118, Tryd.ntmps118
  go_upto_region 1 with fail
  rw [← hW0]
  clear hW0
  go_wp2_with (first
    | (go_at_call 50; refine (specGraphOk_any _ g _ HG.out).mono ?_; rintro e w2 ⟨he, hb2⟩; rw [HD.out] at he; subst he; have hcg2 := hb2.at' hcg; have HB2 := Lib.hid hb2; clear hb2)
    | (go_at_call 60; refine (l1Size_any _ g _ (HG.out.below HB2.out)).mono ?_; rintro e w3 ⟨rfl, hb3⟩; have HB3 := Lib.hid (HB2.out.trans (hb3.mono HB2.out.size)); clear hb3))
  go_ret
  exact ⟨ret_bool (decide_eq_true (by omega)), HB0.out.trans (HB3.out.mono s0)⟩
theorem kok_start (n : Nat) (E : Nat → Nat → Bool) : KOk n E (2 ^ n) (List.replicate (2 ^ n) (-1)) := ⟨by simp, rfl, fun c hc => .inl (by simp [hc])⟩
set_option maxRecDepth 100000 in
set_option maxHeartbeats 4000000 in
theorem specWidthFrom_none (v : Value) (lp : Option Addr) (lc : Nat) (g : List (List Int)) (hok : GOk g) (h10 : g.length ≤ 10) (w : World) (hg : Gr w v g) (hn : Nums w 2 .i64 (.slice lp 0 lc) []) :
    Calls Tryd.prog 65 #[v, .slice lp 0 lc] w fun e w' => e = .returned (.int .i64 (twS g.length (ofG g) 0 : Int)) ∧ Below w.heap.size w w' := by
  have hg0 := hg
  obtain ⟨gu, rfl, hr⟩ := hg
  obtain ⟨p, c, rfl, _⟩ := hr.shape
  obtain ⟨W0, hW0⟩ : ∃ W0, W0 = w.alloc (.cells #[.slice p g.length c] 29) := ⟨_, rfl⟩
  have HB0 : Hid (Below w.heap.size w W0) := Lib.hid (by rw [hW0]; exact below_alloc _ _)
  have HBG : Hid (Box W0 w.heap.size 29 (.slice p g.length c)) := Lib.hid (by rw [hW0]; exact Box.new _ _ _)
  have HG := Lib.hid (hg0.below HB0.out)
  have HN := Lib.hid (hn.below HB0.out)
  have hcg := HBG.out.cell
  have HOK := Lib.hid hok
  have s0 := HB0.out.size
  have HD := Lib.hid (dec_true (setIn_nil (g.length : Int)))
  obtain ⟨N, hN⟩ : ∃ N, N = 2 ^ g.length := ⟨_, rfl⟩
  have HNN := Lib.hid hN
  have HKO : Hid (KOk g.length (ofG g) N (List.replicate N (-1))) := Lib.hid (by rw [hN]; exact kok_start _ _)
  have HTB : Hid (∀ w v, Gr w v g → Calls Tryd.prog 121 #[v] w fun e w' => ∃ kb, e = .returned (.slice (some ⟨kb, 0, none⟩) N N) ∧ w'.ownsRow w.heap.size 2 1 (.slice (some ⟨kb, 0, none⟩) N N) N ((List.replicate N (-1 : Int)).map (Value.int .i64)) ∧ Below w.heap.size w w') := Lib.hid (fun w v h => by rw [hN]; exact l10Table_any v g hok w h)
  have HN1 : Hid (0 < N) := Lib.hid (by rw [hN]; exact Nat.one_le_two_pow)
  have h16 := hok.le
  clear hr hg0 hok hn hN
  go_enter Tryd.func65, Tryd.ntmps65
  go_upto_region 1 with fail
  rw [← hW0]
  clear hW0
  go_upto_region 3 with (first
    | (go_at_call 118; refine (l10Wide_yes _ g HOK.out h10 _ HG.out).mono ?_; rintro e w2 ⟨rfl, hb2⟩; have hcg2 := hb2.at' hcg; have HB2 := Lib.hid hb2; clear hb2)
    | (go_at_call 60; refine (l1Size_any _ g _ (HG.out.below HB2.out)).mono ?_; rintro e w3 ⟨rfl, hb3⟩; have HB3 := Lib.hid (HB2.out.trans (hb3.mono HB2.out.size)); have hcg3 := hb3.at' hcg2; clear hb3 hcg2)
    | (go_at_call 103; refine (l1Set_any _ [] _ (by omega) (by omega) _ (HN.out.below HB3.out)).mono ?_; rintro e w4 ⟨he, hb4⟩; rw [HD.out] at he; subst he; have HB4 := Lib.hid (HB3.out.trans (hb4.mono HB3.out.size)); have hcg4 := hb4.at' hcg3; clear hb4 hcg3))
  clear hcg
  have HG4 := Lib.hid (HG.out.below HB4.out)
  have s4 := HB4.out.size
  go_region_held3 (fun w' => w'.cell? ⟨w.heap.size, 0, none⟩ = some (.slice p g.length c))
    (first | exact hcg4 | exact HZ.out.at' hcg4 | go_keep | exact BM.at' hcg4 | exact BT.at' hcg4 | exact HBL.out.at' hcg4)
    (first
      | (go_at_call 120; refine (l10Marks_none _ _ _ g HOK.out _ (HG4.out.below BT)).mono ?_; rintro e wf ⟨gb, rfl, ho, hb⟩; have HBL : Hid (Below w4.heap.size w4 wf) := Lib.hid (BT.trans (hb.mono BT.size)); have HLF : Hid (LfR wf w4.heap.size wf.heap.size gb kb g.length N 0 (List.replicate N (-1))) := Lib.hid ⟨ownsRow_base ho BT.size, ownsRow_below HT.out hb, fun e => (by have h1 := (ho.lt gb rfl).1; have h2 := (HT.out.lt kb rfl).2; omega), (ho.lt gb rfl).2, Nat.lt_of_lt_of_le (HT.out.lt kb rfl).2 hb.size, Nat.le_refl _⟩; clear ho hb)
      | (go_at_call 120; refine (l10Marks_none _ _ _ g HOK.out _ (HG4.out.below (below_dN (Below.refl _ _) 1))).mono ?_; rintro e wm ⟨gb, rfl, ho, hb⟩; have BM : Below w4.heap.size w4 wm := (below_dN (Below.refl _ _) 1).trans hb; have HM : Hid (wm.ownsRow w4.heap.size 4 1 (.slice (some ⟨gb, 0, none⟩) g.length g.length) g.length (boolsOf g.length (Nat.testBit 0))) := Lib.hid ho; clear ho hb)
      | (go_at_call 121; refine (HTB.out _ _ (HG4.out.below BM)).mono ?_; rintro e wf ⟨kb, rfl, ho, hb⟩; have HBL : Hid (Below w4.heap.size w4 wf) := Lib.hid (BM.trans (hb.mono BM.size)); have HLF : Hid (LfR wf w4.heap.size wf.heap.size gb kb g.length N 0 (List.replicate N (-1))) := Lib.hid ⟨ownsRow_below HM.out hb, ownsRow_base ho BM.size, fun e => (by have h1 := (ho.lt kb rfl).1; have h2 := (HM.out.lt gb rfl).2; omega), Nat.lt_of_lt_of_le (HM.out.lt gb rfl).2 hb.size, (ho.lt kb rfl).2, Nat.le_refl _⟩; clear ho hb)
      | (go_at_call 121; refine (HTB.out _ _ (HG4.out.below (below_dN (Below.refl _ _) 1))).mono ?_; rintro e wt ⟨kb, rfl, ho, hb⟩; have BT : Below w4.heap.size w4 wt := (below_dN (Below.refl _ _) 1).trans hb; have HT : Hid (wt.ownsRow w4.heap.size 2 1 (.slice (some ⟨kb, 0, none⟩) N N) N ((List.replicate N (-1 : Int)).map (Value.int .i64))) := Lib.hid ho; clear ho hb)
      | (go_at_call 119; refine (l10From_any _ g HOK.out w4.heap.size wf.heap.size gb kb N HNN.out w4 (Nat.le_refl _) HG4.out _ 0 (List.replicate N (-1)) _ rfl HN1.out HKO.out HLF.out HBL.out).mono ?_; rintro e wz ⟨rfl, K', _, _, ha⟩; have HZ : Hid (Below w4.heap.size w4 wz) := Lib.hid (HBL.out.trans (ha.below HBL.out.size)); clear ha))
  all_goals go_wp2
  all_goals go_ret
  all_goals exact ⟨rfl, HB0.out.trans ((HB4.out.trans (HZ.out.mono s4)).mono s0)⟩
set_option maxRecDepth 100000 in
set_option maxHeartbeats 1000000 in
theorem specTreeWidth_any (v : Value) (g : List (List Int)) (hok : GOk g) (h10 : g.length ≤ 10) (w : World) (hg : Gr w v g) :
    Calls Tryd.prog 20 #[v] w fun e w' => e = .returned (.int .i64 (twS g.length (ofG g) 0 : Int)) ∧ Below w.heap.size w w' := by
  have hg0 := hg
  obtain ⟨gu, rfl, hr⟩ := hg
  obtain ⟨p, c, rfl, _⟩ := hr.shape
  obtain ⟨W0, hW0⟩ : ∃ W0, W0 = w.alloc (.cells #[.slice p g.length c] 29) := ⟨_, rfl⟩
  have HB0 : Hid (Below w.heap.size w W0) := Lib.hid (by rw [hW0]; exact below_alloc _ _)
  have HBG : Hid (Box W0 w.heap.size 29 (.slice p g.length c)) := Lib.hid (by rw [hW0]; exact Box.new _ _ _)
  have HG := Lib.hid ((hg0.below HB0.out).below (below_alloc W0 (.cells #[] 2)))
  have HN : Hid (Nums (W0.alloc (.cells #[] 2)) 2 .i64 (.slice (some ⟨W0.heap.size, 0, none⟩) 0 0) []) := Lib.hid (Nums.of_owns (ownsRow_empty W0 2 1) rfl (by omega))
  have HBA := Lib.hid (below_alloc W0 (.cells #[] 2))
  have hcg := HBG.out.cell
  have HOK := Lib.hid hok
  have s0 := HB0.out.size
  clear hr hg0 hok
  go_enter Tryd.func20, Tryd.ntmps20
  go_upto_region 1 with fail
  rw [← hW0]
  clear hW0
  go_wp2_with (go_at_call 65; refine (specWidthFrom_none _ _ _ g HOK.out h10 _ HG.out HN.out).mono ?_; rintro e w2 ⟨rfl, hb2⟩; have HB2 := Lib.hid (HBA.out.trans (hb2.mono HBA.out.size)); clear hb2)
  go_ret
  exact ⟨rfl, HB0.out.trans (HB2.out.mono s0)⟩

end Go.Proofs.YtfokiijcpkhllaaDoor

/- Walk: the law FnFullMinors (printed by wip/mkFu.py). -/
namespace Go.Proofs.YtfokiijcpkhllaaDoor
open Go.RowKit

theorem dice_ltFu {w0 w : World} {db : Nat} {bs : List Int} (h : Dice w0 w db bs) : db < w.heap.size := by
  obtain ⟨_, _, _, h1, _⟩ := h.ex
  exact h1.lt
theorem fu_clique {g : List (List Int)} {k c : Nat} (hk : FuS g k) (hc : c = 0 ∨ HasK g c) (h5 : k < 5) : c ≤ k := Classical.byContradiction fun hn => by
  rcases hc with rfl | hc
  · omega
  · exact hk.2.2.2 (k + 1) (by omega) (by omega) (hasK_less hc (by omega))
theorem fu_ser {g : List (List Int)} {k : Nat} (hg : GOk g) (h6 : g.length ≤ 6) (hk : FuS g k) : (3 < k → dec (SerS g) = false) ∧ (k ≤ 3 → dec (SerS g) = true) :=
  ⟨fun h => dec_false ((hasK_ser hg h6).1 (hasK_less hk.2.2.1 h)), fun h => dec_true (Classical.byContradiction fun hn => hk.2.2.2 4 (by omega) (by omega) ((hasK_ser hg h6).2 hn))⟩
set_option maxRecDepth 100000 in
set_option maxHeartbeats 8000000 in
theorem lawFullMinors_any (v0 : Value) (bs : List Int) (W : World) (ha : ArgB W v0 bs) (hT : Tab W) :
    Calls Tryd.prog 6 #[v0] W fun e w' => e = .returned (.bool true) ∧ Below W.heap.size W w' := by
  obtain ⟨pa, ca, e0, _⟩ := id ha
  subst e0
  have HA := Lib.hid ha
  have HT := Lib.hid hT
  clear ha hT
  go_enter Tryd.func6, Tryd.ntmps6
  by_cases hbig : 4096 < bs.length
  · have hd := decide_eq_true hbig
    go_wp2_with (go_at_call 7; refine (big_any _ bs _ HA.out).mono ?_; rintro e w2 ⟨he, rfl⟩; rw [hd] at he; subst he)
    go_ret
    exact ⟨rfl, Below.refl _ _⟩
  have hd := decide_eq_false hbig
  have hl : bs.length ≤ 4096 := by omega
  clear hbig
  go_upto_region 5 with (first
    | (go_at_call 9; refine (w9Graph_any W db bs 6 _ rfl (by decide) (by decide) _ HD2.out (dice_ltFu HD2.out)).mono ?_; rintro e w3 ⟨u, n, E, rfl, hn1, hn6, hse, hsg, hd3, hg3⟩; have HSE := Lib.hid hse; have HSG := Lib.hid hsg; have HD3 := Lib.hid hd3; obtain ⟨ga, gc, rfl⟩ := hsg.shape; clear hse hsg hd3 hg3)
    | (go_at_call 8; refine (roll_any _ bs _ hl _ HA.out).mono ?_; rintro e w2 ⟨db, rfl, hd2, hb2⟩; have HD2 := Lib.hid hd2; clear hd2 hb2)
    | (go_at_call 7; refine (big_any _ bs _ HA.out).mono ?_; rintro e w1 ⟨he, rfl⟩; rw [hd] at he; subst he))
  obtain ⟨g, hga⟩ : ∃ g, g = matG n E := ⟨_, rfl⟩
  have hgl : g.length = n := by rw [hga, matG_length]
  have HOK : Hid (GOk g) := Lib.hid (by rw [hga]; exact gok_matG hn1 (by omega) HSE.out.1 HSE.out.2)
  rw [← hga] at HSG ⊢
  have hg6 : g.length ≤ 6 := by omega
  obtain ⟨w4, hw4⟩ : ∃ W', W' = w3.alloc (.cells #[.slice ga g.length gc] 29) := ⟨_, rfl⟩
  rw [← hw4]
  have hba : Below w3.heap.size w3 w4 := by rw [hw4]; exact below_alloc _ _
  have HXg : Hid (Box w4 w3.heap.size 29 (.slice ga g.length gc)) := Lib.hid (by rw [hw4]; exact Box.new _ _ _)
  have HGg := Lib.hid ((HSG.out.below hba).gr (by omega))
  have HB4 : Hid (Below W.heap.size W w4) := Lib.hid (HD3.out.bel.trans (hba.mono HD3.out.bel.size))
  have cg := HXg.out.cell
  obtain ⟨bg, hbg⟩ : ∃ bg, bg = w3.heap.size := ⟨_, rfl⟩
  rw [← hbg] at HXg cg ⊢
  clear hbg hga hw4 hba HSG hn6 hgl hn1 HD2 HD3 HSE hd
  go_upto_region 6 with (go_at_call 33; refine (implFullMinor_any _ g _ HOK.out (by omega) HGg.out (HT.out.keep HB4.out)).mono ?_; rintro e w5 ⟨k, rfl, hfu, hb5⟩; have HFU := Lib.hid hfu; have cg5 := hb5.at' cg; have HGg5 := Lib.hid (HGg.out.below hb5); have HB5 : Hid (Below W.heap.size W w5) := Lib.hid (HB4.out.trans (hb5.mono HB4.out.size)); clear hfu hb5)
  have hk1 := HFU.out.1
  have hk5 := HFU.out.2.1
  clear cg HGg HXg HB4
  go_cut [47] (fun s47 wx => s47 = .bool false ∧ Below w5.heap.size w5 wx)
  case first =>
    have i1 : ¬ (k : Int) < 1 := by omega
    have i2 : ¬ (5 : Int) < (k : Int) := by omega
    obtain ⟨tw, htw⟩ : ∃ tw, tw = twS g.length (ofG g) 0 := ⟨_, rfl⟩
    have HWI : Hid (k ≤ tw + 1) := Lib.hid (by rw [htw]; exact hasK_width HOK.out HFU.out.2.2.1)
    have htl : tw ≤ 6 := by rw [htw]; exact Nat.le_trans (twS_le _ _ _ 0 rfl) hg6
    have TW : Hid (∀ (v : Value) (wz : World), Gr wz v g → Calls Tryd.prog 20 #[v] wz fun e w' => e = .returned (.int .i64 (tw : Int)) ∧ Below wz.heap.size wz w') := Lib.hid (fun v wz h => by rw [htw]; exact specTreeWidth_any v g HOK.out (by omega) wz h)
    have i3 : ¬ (tw : Int) + 1 < (k : Int) := by have := HWI.out; omega
    clear htw
    by_cases c5 : k < 5
    · by_cases c3 : 3 < k
      · have i4 : (k : Int) < 5 := by omega
        have i5 : (3 : Int) < (k : Int) := by omega
        have HDS := Lib.hid ((fu_ser HOK.out hg6 HFU.out).1 (by omega))
        go_wp2_with (first
          | (go_at_call 35; refine (specSeriesIn_any _ g _ (HGg5.out.below hb8)).mono ?_; rintro e w9 ⟨he, hb9⟩; rw [HDS.out] at he; subst he; have hb9 := hb8.trans (hb9.mono hb8.size))
          | (go_at_call 20; refine (TW.out _ _ (HGg5.out.below hb7)).mono ?_; rintro e w8 ⟨rfl, hb8⟩; have cg8 := hb8.at' cg7; have hb8 := hb7.trans (hb8.mono hb7.size))
          | (go_at_call 34; refine (w9Clique_any _ g _ HOK.out HGg5.out).mono ?_; rintro e w7 ⟨c, rfl, hc32, hc, hb7⟩; have i6 : ¬ (k : Int) < (c : Int) := (by have := fu_clique HFU.out hc (by omega); omega); have cg7 := hb7.at' cg5; clear hc))
        go_meet
        exact ⟨congrArg Value.bool (by simp only [Bool.or_eq_false_iff, decide_eq_false_iff_not]; omega), hb9⟩
      · have i4 : (k : Int) < 5 := by omega
        have i5 : ¬ (3 : Int) < (k : Int) := by omega
        have HDS := Lib.hid ((fu_ser HOK.out hg6 HFU.out).2 (by omega))
        go_wp2_with (first
          | (go_at_call 35; refine (specSeriesIn_any _ g _ (HGg5.out.below hb8)).mono ?_; rintro e w9 ⟨he, hb9⟩; rw [HDS.out] at he; subst he; have hb9 := hb8.trans (hb9.mono hb8.size))
          | (go_at_call 20; refine (TW.out _ _ (HGg5.out.below hb7)).mono ?_; rintro e w8 ⟨rfl, hb8⟩; have cg8 := hb8.at' cg7; have hb8 := hb7.trans (hb8.mono hb7.size))
          | (go_at_call 34; refine (w9Clique_any _ g _ HOK.out HGg5.out).mono ?_; rintro e w7 ⟨c, rfl, hc32, hc, hb7⟩; have i6 : ¬ (k : Int) < (c : Int) := (by have := fu_clique HFU.out hc (by omega); omega); have cg7 := hb7.at' cg5; clear hc))
        go_meet
        exact ⟨congrArg Value.bool (by simp only [Bool.or_eq_false_iff, decide_eq_false_iff_not]; omega), hb9⟩
    · have i4 : ¬ (k : Int) < 5 := by omega
      have i5 : (3 : Int) < (k : Int) := by omega
      have HDS := Lib.hid ((fu_ser HOK.out hg6 HFU.out).1 (by omega))
      go_wp2_with (first
        | (go_at_call 35; refine (specSeriesIn_any _ g _ (HGg5.out.below hb8)).mono ?_; rintro e w9 ⟨he, hb9⟩; rw [HDS.out] at he; subst he; have hb9 := hb8.trans (hb9.mono hb8.size))
        | (go_at_call 20; refine (TW.out _ _ HGg5.out).mono ?_; rintro e w8 ⟨rfl, hb8⟩; have cg8 := hb8.at' cg5))
      go_meet
      exact ⟨congrArg Value.bool (by simp only [Bool.or_eq_false_iff, decide_eq_false_iff_not]; omega), hb9⟩
  case rest =>
  obtain ⟨rfl, hbc⟩ := hcut
  have cg6 := hbc.at' cg5
  have HGg6 := Lib.hid (HGg5.out.below hbc)
  have HB6 := Lib.hid (HB5.out.trans (hbc.mono HB5.out.size))
  obtain ⟨w6, rfl⟩ : ∃ w6, w6 = wc := ⟨_, rfl⟩
  clear hbc cg5 HGg5 HB5
  go_upto_region 9 with (go_at_call 28; refine (specFull_yes _ k rfl (by omega) (by omega) _).mono ?_; rintro e w7 ⟨u7, rfl, hs7, hb7⟩; obtain ⟨pf, cf, rfl⟩ := hs7.shape; rw [fullG_length] at hs7 ⊢)
  obtain ⟨w8, hw8⟩ : ∃ W', W' = w7.alloc (.cells #[.slice pf k cf] 29) := ⟨_, rfl⟩
  rw [← hw8]
  have hb8 : Below w6.heap.size w6 w8 := by rw [hw8]; exact hb7.alloc hb7.size _
  have HXf : Hid (Box w8 w7.heap.size 29 (.slice pf k cf)) := Lib.hid (by rw [hw8]; exact Box.new _ _ _)
  have HGf : Hid (Gr w8 (.agg #[.slice pf k cf]) (fullG k)) := Lib.hid ((hs7.below (show Below w7.heap.size w7 w8 by rw [hw8]; exact below_alloc _ _)).gr (by rw [fullG_length]; omega))
  have cf8 := HXf.out.cell
  have cg8 := hb8.at' cg6
  have HGg8 := Lib.hid (HGg6.out.below hb8)
  have HB8 : Hid (Below W.heap.size W w8) := Lib.hid (HB6.out.trans (hb8.mono HB6.out.size))
  obtain ⟨bf, hbf⟩ : ∃ bf, bf = w7.heap.size := ⟨_, rfl⟩
  rw [← hbf] at HXf cf8 ⊢
  clear hbf hw8 hs7 hb7 hb8 cg6 HGg6 HB6
  go_upto_region 10 with (go_at_call 36; refine (implMinorIn_any _ _ g (fullG k) _ HGg8.out HGf.out (HT.out.keep HB8.out)).mono ?_; rintro e w9 ⟨u9, R, ok, rfl, hmi, hd9, hR16, hRr, hb9⟩; obtain ⟨e9, hmo⟩ := fu_found HOK.out (by omega) HFU.out hmi; subst e9; have HMO := Lib.hid (dec_true hmo); obtain ⟨pm, cm, rfl⟩ := hd9.shape)
  obtain ⟨wa, hwa⟩ : ∃ W', W' = w9.alloc (.cells #[.slice pm R.length cm] 49) := ⟨_, rfl⟩
  rw [← hwa]
  have hba : Below w8.heap.size w8 wa := by rw [hwa]; exact hb9.alloc hb9.size _
  have HXm : Hid (Box wa w9.heap.size 49 (.slice pm R.length cm)) := Lib.hid (by rw [hwa]; exact Box.new _ _ _)
  have HGm : Hid (Gr wa (.agg #[.slice pm R.length cm]) R) := Lib.hid ((hd9.gr (by omega) (fun j _ => by have := hRr j; omega)).below (show Below w9.heap.size w9 wa by rw [hwa]; exact below_alloc _ _))
  have cma := HXm.out.cell
  have cga := hba.at' cg8
  have cfa := hba.at' cf8
  have HGga := Lib.hid (HGg8.out.below hba)
  have HGfa := Lib.hid (HGf.out.below hba)
  have HBa : Hid (Below W.heap.size W wa) := Lib.hid (HB8.out.trans (hba.mono HB8.out.size))
  clear hwa hmi hmo hd9 hR16 hRr hb9 hba cg8 cf8 HGg8 HGf HB8 HXf
  go_wp2_with (go_at_call 31; refine (specModelOk_any _ _ _ g (fullG k) R (by omega) _ HGga.out HGfa.out HGm.out).mono ?_; rintro e wb ⟨he, hbb⟩; rw [HMO.out] at he; subst he; have HBB := Lib.hid hbb; clear hbb)
  go_ret
  exact ⟨rfl, HBa.out.trans (HBB.out.mono HBa.out.size)⟩

end Go.Proofs.YtfokiijcpkhllaaDoor

/- The argument of a law over bytes, opened. -/
namespace Go.Proofs.YtfokiijcpkhllaaDoor
open Go.ChangeShapes Go.WideShapes Go.ChangeAt Go.RowKit Go.Deep

variable {H : Type} {enc : TypeId × Value → H}
set_option maxRecDepth 100000 in
theorem open_bytesB {W : World} {sp : Nat → Bool} {held : Bool} {b0 : Nat} {v : Value} {d : DataW H} {p : List MemPlace} (hv : Value.okWide Tryd.prog W .any b0 22 v)
    (h : DataW.Trod enc Tryd.prog W 0 (fun _ => true) held 22 v d p) : ∃ xs, ArgB W v xs := by
  obtain ⟨a0, len, cap, rfl⟩ := okWide_slice Tryd.underlying22 hv
  obtain ⟨fuel, hf⟩ := h
  rcases open_ints Tryd.underlying22 Tryd.underlying5 cellsByte hf with ⟨hc, _⟩ | ⟨a, len', cap', zs, hc, _, hl, hm, hz, _, hcell, hwz⟩
  · obtain ⟨rfl, rfl, rfl⟩ : a0 = none ∧ len = 0 ∧ cap = 0 := by simpa [Value.cells] using hc
    exact ⟨[], none, 0, rfl, by simp, by simp, .inl rfl⟩
  · obtain ⟨rfl, rfl, rfl⟩ : a0 = some a ∧ len = len' ∧ cap = cap' := by simpa [Value.cells] using hc
    simp only [if_true] at hz
    have hll : (zs.take len).length = len := by rw [List.length_take]; omega
    have hm' := hm
    rw [maxLen_eq] at hm'
    refine ⟨zs.take len, some a, cap, by rw [hll], by rw [hll]; omega, fun x hx => ?_, ?_⟩
    · obtain ⟨j, hj, rfl⟩ := List.getElem_of_mem hx
      rw [hll] at hj
      have := range_u8 hwz j
      have hjz : j < zs.length := by omega
      simpa [hjz] using this
    · by_cases h0 : len = 0
      · subst h0; exact .inl (by simp)
      · have hs := spot_of (show W.cell? a = some _ from hcell 0 (by omega))
        refine .inr ⟨a.block, a.off, ?_, fun j u hu => ?_⟩
        · obtain ⟨b, o, s⟩ := a; simp only at hs; subst hs; rfl
        · have hj : j < len := by
            have := (List.getElem?_eq_some_iff.1 hu).1
            rw [List.length_map, hll] at this; exact this
          have h1 := cell_add (hcell j (by omega)) hs
          rw [h1]
          rw [List.getElem?_map, List.getElem?_take, if_pos hj] at hu
          rw [← hu]
          simp [List.getD, List.getElem?_eq_getElem (show j < zs.length by omega)]

end Go.Proofs.YtfokiijcpkhllaaDoor
