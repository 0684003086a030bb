/- Walks: the reference's TreeWidth of a right graph of ten vertices at most. -/
import Derived.Test.YtiooindlpinjhaaDoorWlQ28
import Derived.Test.YtiooindlpinjhaaDoorWlQ35
import Derived.Test.YtiooindlpinjhaaDoorWlQ12
import Derived.Test.YtiooindlpinjhaaDoorWlQ13
import Derived.Deep.RegionLaw
import Derived.Deep.DeepCutAuto
import Derived.Deep.RegionHeld3
namespace Go.Proofs.YtiooindlpinjhaaDoor
open Go.RowKit

set_option maxRecDepth 100000 in
set_option maxHeartbeats 2000000 in
theorem l10Table_any (v : Value) (g : List (List Int)) (hok : GOk g) (w : World) (hg : Gr w v g) :
    Calls Tryd.prog 152 #[v] w fun e w' => ∃ kb, e = .returned (.slice (some ⟨kb, 0, none⟩) (2 ^ g.length) (2 ^ g.length)) ∧ w'.ownsRow w.heap.size 2 1 (.slice (some ⟨kb, 0, none⟩) (2 ^ g.length) (2 ^ g.length)) (2 ^ g.length) ((List.replicate (2 ^ g.length) (-1 : Int)).map (Value.int .i64)) ∧ Below w.heap.size w w' := by
  have h16 := hok.le
  have hg0 := hg
  obtain ⟨gu, rfl, hr⟩ := hg
  obtain ⟨p, c, rfl, _⟩ := hr.shape
  obtain ⟨W0, hW0⟩ : ∃ W0, W0 = w.alloc (.cells #[.slice p g.length c] 28) := ⟨_, rfl⟩
  have HB0 : Hid (Below w.heap.size w W0) := Lib.hid (by rw [hW0]; exact below_alloc _ _)
  have HBG : Hid (Box W0 w.heap.size 28 (.slice p g.length c)) := Lib.hid (by rw [hW0]; exact Box.new _ _ _)
  have HG := Lib.hid (hg0.below HB0.out)
  have SZ0 : Hid (W0.heap.size = w.heap.size + 1) := Lib.hid (by rw [hW0, size_alloc])
  clear hr hg0 hok
  go_enter Tryd.func152, Tryd.ntmps152
  go_upto_region 1 with fail
  rw [← hW0]
  clear hW0
  go_wp2_with fail
  go_loopw [3, 4] (fun sv iv wr => ∃ k : Nat, k ≤ g.length ∧ iv = .int .i64 k ∧ Hid (sv = .int .i64 ((2 ^ k : Nat) : Int)) ∧ Below W0.heap.size W0 wr) (fun _ iv _ => g.length - (intOf iv).toNat)
  case atStart => exact ⟨0, Nat.zero_le _, rfl, Lib.hid rfl, Below.refl _ _⟩
  case round =>
    obtain ⟨k, hk, rfl, hsv, hb⟩ := hrel
    have HB := Lib.hid hb
    have hcg := hb.at (by have := SZ0.out; omega) HBG.out.cell
    obtain ⟨q, hq⟩ : ∃ q, q = 2 ^ k := ⟨_, rfl⟩
    have hsv' := hsv.out
    rw [← hq] at hsv'
    subst hsv'
    have hq16 : q ≤ 65536 := by rw [hq]; exact Nat.le_trans (Nat.pow_le_pow_right (by omega) (show k ≤ 16 by omega)) (Nat.le_refl _)
    have HQ := Lib.hid hq
    clear hsv hb hq
    by_cases hlt : k < g.length
    · have hwr : IntKind.i64.wrap ((q : Int) * 2) = ((q * 2 : Nat) : Int) := by rw [IntKind.wrap_i64]; omega
      go_wp2_with (go_at_call 75; refine (l1Size_any _ g _ (HG.out.below HB.out)).mono ?_; rintro e w2 ⟨rfl, hb2⟩; have HB2 := Lib.hid (HB.out.trans (hb2.mono HB.out.size)); clear hb2)
      go_roundw
      case rel => exact ⟨k + 1, by omega, by go_num, Lib.hid (by rw [Nat.pow_succ, ← HQ.out]; first | rfl | (congr 1)), HB2.out⟩
      case measure => simp [intOf]; omega
    · obtain rfl : k = g.length := by omega
      have hq1 : 1 ≤ q := by rw [HQ.out]; exact Nat.one_le_two_pow
      go_upto_region 7 with (first
        | (go_at_call 75; refine (l1Size_any _ g _ (HG.out.below HB.out)).mono ?_; rintro e w2 ⟨rfl, hb2⟩; have HB2 := Lib.hid (HB.out.trans (hb2.mono HB.out.size)); clear hb2)
        | (at_make; refine wpList_mk ty_i64 rfl rfl rfl q rfl rfl (by rfl) (by rfl) (by omega) ?_; intro w3 hown3 hg3))
      have HO3 : Hid (w3.ownsRow w2.heap.size 2 1 (.slice (some ⟨w2.heap.size, 0, none⟩) q q) q ((List.replicate 0 (-1 : Int) ++ List.replicate (q - 0) 0).map (Value.int .i64))) := Lib.hid (by
        have e : (List.replicate 0 (-1 : Int) ++ List.replicate (q - 0) 0).map (Value.int .i64) = List.replicate q (Value.int .i64 0) := by simp
        rw [e]; exact hown3)
      have HB3 : Hid (Below W0.heap.size W0 w3) := Lib.hid (HB2.out.trans ((grown_below hg3).mono HB2.out.size))
      obtain ⟨kb, hkb⟩ : ∃ kb, kb = w2.heap.size := ⟨_, rfl⟩
      have hkb0 : W0.heap.size ≤ kb := by rw [hkb]; exact HB2.out.size
      rw [← hkb] at HO3 ⊢
      clear hown3 hg3 hkb hcg HB
      go_wp2_with fail
      go_loopw [6] (fun iv wr => ∃ k : Nat, k ≤ q ∧ iv = .int .i64 k ∧ Hid (wr.ownsRow kb 2 1 (.slice (some ⟨kb, 0, none⟩) q q) q ((List.replicate k (-1 : Int) ++ List.replicate (q - k) 0).map (Value.int .i64))) ∧ Hid (Below W0.heap.size W0 wr)) (fun iv _ => q - (intOf iv).toNat)
      case atStart => exact ⟨0, Nat.zero_le _, rfl, HO3, HB3⟩
      case round =>
        clear HO3 HB3
        obtain ⟨k, hk, rfl, HO, HB⟩ := hrel
        by_cases hlt : k < q
        · have hck : wr.cell? ⟨kb, k, none⟩ = some (.int .i64 0) := by
            rw [HO.out.cellAt k (by omega)]
            rw [List.getElem?_map, List.getElem?_append_right (by simp), List.length_replicate, Nat.sub_self, List.getElem?_replicate, if_pos (by omega)]
            rfl
          have hfk := HO.out.frozenAt k
          have HS : Hid ((wr.setCell ⟨kb, k, none⟩ (.int .i64 (-1))).ownsRow kb 2 1 (.slice (some ⟨kb, 0, none⟩) q q) q ((List.replicate (k + 1) (-1 : Int) ++ List.replicate (q - (k + 1)) 0).map (Value.int .i64))) := Lib.hid (by
            have h := (HO.out.stored k (.int .i64 (-1))).1
            rw [← List.map_set] at h
            have e : (List.replicate k (-1 : Int) ++ List.replicate (q - k) 0).set k (-1) = List.replicate (k + 1) (-1 : Int) ++ List.replicate (q - (k + 1)) 0 := by
              rw [List.set_append_right _ _ (by simp)]
              obtain ⟨d, hd⟩ : ∃ d, q - k = d + 1 := ⟨q - k - 1, by omega⟩
              rw [hd, List.replicate_succ, show q - (k + 1) = d by omega, List.replicate_succ']
              simp
            rwa [e] at h)
          have HBS : Hid (Below W0.heap.size W0 (wr.setCell ⟨kb, k, none⟩ (.int .i64 (-1)))) := Lib.hid (HB.out.setCell (p := ⟨kb, k, none⟩) hkb0 _)
          go_wp2_with fail
          go_roundw
          case rel => exact ⟨k + 1, by omega, by go_num, HS, HBS⟩
          case measure => simp [intOf]; omega
        · obtain rfl : k = q := by omega
          go_wp2_with fail
          go_ret
          rw [← HQ.out]
          refine ⟨kb, rfl, ?_, HB0.out.trans (HB.out.mono HB0.out.size)⟩
          have h := HO.out
          rw [Nat.sub_self, List.replicate_zero, List.append_nil] at h
          exact ownsRow_base h (by have := SZ0.out; omega)
set_option maxRecDepth 100000 in
set_option maxHeartbeats 1000000 in
theorem l10Marks_none (v : Value) (lp : Option Addr) (lc : Nat) (g : List (List Int)) (hok : GOk g) (w : World) (hg : Gr w v g) :
    Calls Tryd.prog 114 #[v, .slice lp 0 lc] w fun e w' => ∃ gb, e = .returned (.slice (some ⟨gb, 0, none⟩) g.length g.length) ∧ w'.ownsRow w.heap.size 4 1 (.slice (some ⟨gb, 0, none⟩) g.length g.length) g.length (boolsOf g.length (Nat.testBit 0)) ∧ Below w.heap.size w w' := by
  have h16 := hok.le
  have hg0 := hg
  obtain ⟨gu, rfl, hr⟩ := hg
  obtain ⟨p, c, rfl, _⟩ := hr.shape
  obtain ⟨W0, hW0⟩ : ∃ W0, W0 = w.alloc (.cells #[.slice p g.length c] 28) := ⟨_, rfl⟩
  have HB0 : Hid (Below w.heap.size w W0) := Lib.hid (by rw [hW0]; exact below_alloc _ _)
  have HBG : Hid (Box W0 w.heap.size 28 (.slice p g.length c)) := Lib.hid (by rw [hW0]; exact Box.new _ _ _)
  have HG := Lib.hid (hg0.below HB0.out)
  have hcg := HBG.out.cell
  have e0 : List.replicate g.length (Value.bool false) = boolsOf g.length (Nat.testBit 0) := List.ext_getElem (by simp [boolsOf]) fun j h1 h2 => by simp [boolsOf]
  have E0 := Lib.hid e0
  clear hr hg0 hok e0
  go_enter Tryd.func114, Tryd.ntmps114
  go_upto_region 1 with fail
  rw [← hW0]
  clear hW0
  go_upto_region 2 with (first
    | (go_at_call 75; refine (l1Size_any _ g _ HG.out).mono ?_; rintro e w2 ⟨rfl, hb2⟩; have HB2 := Lib.hid hb2; clear hb2)
    | (at_make; refine wpList_mk ty_bool rfl rfl rfl g.length rfl rfl rfl rfl (by omega) ?_; intro w3 hown3 hg3; have HO3 := Lib.hid hown3; have HB3 := Lib.hid (HB2.out.trans ((grown_below hg3).mono HB2.out.size)); clear hown3 hg3))
  have s2 := HB2.out.size
  have s0 := HB0.out.size
  go_wp2_with fail
  refine wp_loop_rounds 1 ?_
  rw [rounds_succ]
  go_wp2_with fail
  go_ret
  exact ⟨_, rfl, ownsRow_base (by rw [← E0.out]; exact HO3.out) (by omega), HB0.out.trans (HB3.out.mono s0)⟩
set_option maxRecDepth 100000 in
set_option maxHeartbeats 1000000 in
theorem l10Wide_yes (v : Value) (g : List (List Int)) (hok : GOk g) (h10 : g.length ≤ 10) (w : World) (hg : Gr w v g) :
    Calls Tryd.prog 150 #[v] w fun e w' => e = .returned (.bool true) ∧ Below w.heap.size w w' := by
  have hg0 := hg
  obtain ⟨gu, rfl, hr⟩ := hg
  obtain ⟨p, c, rfl, _⟩ := hr.shape
  obtain ⟨W0, hW0⟩ : ∃ W0, W0 = w.alloc (.cells #[.slice p g.length c] 28) := ⟨_, rfl⟩
  have HB0 : Hid (Below w.heap.size w W0) := Lib.hid (by rw [hW0]; exact below_alloc _ _)
  have HBG : Hid (Box W0 w.heap.size 28 (.slice p g.length c)) := Lib.hid (by rw [hW0]; exact Box.new _ _ _)
  have HG := Lib.hid (hg0.below HB0.out)
  have hcg := HBG.out.cell
  have HD := Lib.hid (dec_true hok)
  have s0 := HB0.out.size
  clear hr hg0 hok
  go_enter Tryd.func150, Tryd.ntmps150
  go_upto_region 1 with fail
  rw [← hW0]
  clear hW0
  go_wp2_with (first
    | (go_at_call 45; refine (specGraphOk_any _ g _ HG.out).mono ?_; rintro e w2 ⟨he, hb2⟩; rw [HD.out] at he; subst he; have hcg2 := hb2.at' hcg; have HB2 := Lib.hid hb2; clear hb2)
    | (go_at_call 75; refine (l1Size_any _ g _ (HG.out.below HB2.out)).mono ?_; rintro e w3 ⟨rfl, hb3⟩; have HB3 := Lib.hid (HB2.out.trans (hb3.mono HB2.out.size)); clear hb3))
  go_ret
  exact ⟨ret_bool (decide_eq_true (by omega)), HB0.out.trans (HB3.out.mono s0)⟩
theorem kok_start (n : Nat) (E : Nat → Nat → Bool) : KOk n E (2 ^ n) (List.replicate (2 ^ n) (-1)) := ⟨by simp, rfl, fun c hc => .inl (by simp [hc])⟩
set_option maxRecDepth 100000 in
set_option maxHeartbeats 4000000 in
theorem specWidthFrom_none (v : Value) (lp : Option Addr) (lc : Nat) (g : List (List Int)) (hok : GOk g) (h10 : g.length ≤ 10) (w : World) (hg : Gr w v g) (hn : Nums w 2 .i64 (.slice lp 0 lc) []) :
    Calls Tryd.prog 109 #[v, .slice lp 0 lc] w fun e w' => e = .returned (.int .i64 (twS g.length (ofG g) 0 : Int)) ∧ Below w.heap.size w w' := by
  have hg0 := hg
  obtain ⟨gu, rfl, hr⟩ := hg
  obtain ⟨p, c, rfl, _⟩ := hr.shape
  obtain ⟨W0, hW0⟩ : ∃ W0, W0 = w.alloc (.cells #[.slice p g.length c] 28) := ⟨_, rfl⟩
  have HB0 : Hid (Below w.heap.size w W0) := Lib.hid (by rw [hW0]; exact below_alloc _ _)
  have HBG : Hid (Box W0 w.heap.size 28 (.slice p g.length c)) := Lib.hid (by rw [hW0]; exact Box.new _ _ _)
  have HG := Lib.hid (hg0.below HB0.out)
  have HN := Lib.hid (hn.below HB0.out)
  have hcg := HBG.out.cell
  have HOK := Lib.hid hok
  have s0 := HB0.out.size
  have HD := Lib.hid (dec_true (setIn_nil (g.length : Int)))
  obtain ⟨N, hN⟩ : ∃ N, N = 2 ^ g.length := ⟨_, rfl⟩
  have HNN := Lib.hid hN
  have HKO : Hid (KOk g.length (ofG g) N (List.replicate N (-1))) := Lib.hid (by rw [hN]; exact kok_start _ _)
  have HTB : Hid (∀ w v, Gr w v g → Calls Tryd.prog 152 #[v] w fun e w' => ∃ kb, e = .returned (.slice (some ⟨kb, 0, none⟩) N N) ∧ w'.ownsRow w.heap.size 2 1 (.slice (some ⟨kb, 0, none⟩) N N) N ((List.replicate N (-1 : Int)).map (Value.int .i64)) ∧ Below w.heap.size w w') := Lib.hid (fun w v h => by rw [hN]; exact l10Table_any v g hok w h)
  have HN1 : Hid (0 < N) := Lib.hid (by rw [hN]; exact Nat.one_le_two_pow)
  have h16 := hok.le
  clear hr hg0 hok hn hN
  go_enter Tryd.func109, Tryd.ntmps109
  go_upto_region 1 with fail
  rw [← hW0]
  clear hW0
  go_upto_region 3 with (first
    | (go_at_call 150; refine (l10Wide_yes _ g HOK.out h10 _ HG.out).mono ?_; rintro e w2 ⟨rfl, hb2⟩; have hcg2 := hb2.at' hcg; have HB2 := Lib.hid hb2; clear hb2)
    | (go_at_call 75; refine (l1Size_any _ g _ (HG.out.below HB2.out)).mono ?_; rintro e w3 ⟨rfl, hb3⟩; have HB3 := Lib.hid (HB2.out.trans (hb3.mono HB2.out.size)); have hcg3 := hb3.at' hcg2; clear hb3 hcg2)
    | (go_at_call 117; refine (l1Set_any _ [] _ (by omega) (by omega) _ (HN.out.below HB3.out)).mono ?_; rintro e w4 ⟨he, hb4⟩; rw [HD.out] at he; subst he; have HB4 := Lib.hid (HB3.out.trans (hb4.mono HB3.out.size)); have hcg4 := hb4.at' hcg3; clear hb4 hcg3))
  clear hcg
  have HG4 := Lib.hid (HG.out.below HB4.out)
  have s4 := HB4.out.size
  go_region_held3 (fun w' => w'.cell? ⟨w.heap.size, 0, none⟩ = some (.slice p g.length c))
    (first | exact hcg4 | exact HZ.out.at' hcg4 | go_keep | exact BM.at' hcg4 | exact BT.at' hcg4 | exact HBL.out.at' hcg4)
    (first
      | (go_at_call 114; refine (l10Marks_none _ _ _ g HOK.out _ (HG4.out.below BT)).mono ?_; rintro e wf ⟨gb, rfl, ho, hb⟩; have HBL : Hid (Below w4.heap.size w4 wf) := Lib.hid (BT.trans (hb.mono BT.size)); have HLF : Hid (LfR wf w4.heap.size wf.heap.size gb kb g.length N 0 (List.replicate N (-1))) := Lib.hid ⟨ownsRow_base ho BT.size, ownsRow_below HT.out hb, fun e => (by have h1 := (ho.lt gb rfl).1; have h2 := (HT.out.lt kb rfl).2; omega), (ho.lt gb rfl).2, Nat.lt_of_lt_of_le (HT.out.lt kb rfl).2 hb.size, Nat.le_refl _⟩; clear ho hb)
      | (go_at_call 114; refine (l10Marks_none _ _ _ g HOK.out _ (HG4.out.below (below_dN (Below.refl _ _) 1))).mono ?_; rintro e wm ⟨gb, rfl, ho, hb⟩; have BM : Below w4.heap.size w4 wm := (below_dN (Below.refl _ _) 1).trans hb; have HM : Hid (wm.ownsRow w4.heap.size 4 1 (.slice (some ⟨gb, 0, none⟩) g.length g.length) g.length (boolsOf g.length (Nat.testBit 0))) := Lib.hid ho; clear ho hb)
      | (go_at_call 152; refine (HTB.out _ _ (HG4.out.below BM)).mono ?_; rintro e wf ⟨kb, rfl, ho, hb⟩; have HBL : Hid (Below w4.heap.size w4 wf) := Lib.hid (BM.trans (hb.mono BM.size)); have HLF : Hid (LfR wf w4.heap.size wf.heap.size gb kb g.length N 0 (List.replicate N (-1))) := Lib.hid ⟨ownsRow_below HM.out hb, ownsRow_base ho BM.size, fun e => (by have h1 := (ho.lt kb rfl).1; have h2 := (HM.out.lt gb rfl).2; omega), Nat.lt_of_lt_of_le (HM.out.lt gb rfl).2 hb.size, (ho.lt kb rfl).2, Nat.le_refl _⟩; clear ho hb)
      | (go_at_call 152; refine (HTB.out _ _ (HG4.out.below (below_dN (Below.refl _ _) 1))).mono ?_; rintro e wt ⟨kb, rfl, ho, hb⟩; have BT : Below w4.heap.size w4 wt := (below_dN (Below.refl _ _) 1).trans hb; have HT : Hid (wt.ownsRow w4.heap.size 2 1 (.slice (some ⟨kb, 0, none⟩) N N) N ((List.replicate N (-1 : Int)).map (Value.int .i64))) := Lib.hid ho; clear ho hb)
      | (go_at_call 151; refine (l10From_any _ g HOK.out w4.heap.size wf.heap.size gb kb N HNN.out w4 (Nat.le_refl _) HG4.out _ 0 (List.replicate N (-1)) _ rfl HN1.out HKO.out HLF.out HBL.out).mono ?_; rintro e wz ⟨rfl, K', _, _, ha⟩; have HZ : Hid (Below w4.heap.size w4 wz) := Lib.hid (HBL.out.trans (ha.below HBL.out.size)); clear ha))
  all_goals go_wp2
  all_goals go_ret
  all_goals exact ⟨rfl, HB0.out.trans ((HB4.out.trans (HZ.out.mono s4)).mono s0)⟩
set_option maxRecDepth 100000 in
set_option maxHeartbeats 1000000 in
theorem specTreeWidth_any (v : Value) (g : List (List Int)) (hok : GOk g) (h10 : g.length ≤ 10) (w : World) (hg : Gr w v g) :
    Calls Tryd.prog 40 #[v] w fun e w' => e = .returned (.int .i64 (twS g.length (ofG g) 0 : Int)) ∧ Below w.heap.size w w' := by
  have hg0 := hg
  obtain ⟨gu, rfl, hr⟩ := hg
  obtain ⟨p, c, rfl, _⟩ := hr.shape
  obtain ⟨W0, hW0⟩ : ∃ W0, W0 = w.alloc (.cells #[.slice p g.length c] 28) := ⟨_, rfl⟩
  have HB0 : Hid (Below w.heap.size w W0) := Lib.hid (by rw [hW0]; exact below_alloc _ _)
  have HBG : Hid (Box W0 w.heap.size 28 (.slice p g.length c)) := Lib.hid (by rw [hW0]; exact Box.new _ _ _)
  have HG := Lib.hid ((hg0.below HB0.out).below (below_alloc W0 (.cells #[] 2)))
  have HN : Hid (Nums (W0.alloc (.cells #[] 2)) 2 .i64 (.slice (some ⟨W0.heap.size, 0, none⟩) 0 0) []) := Lib.hid (Nums.of_owns (ownsRow_empty W0 2 1) rfl (by omega))
  have HBA := Lib.hid (below_alloc W0 (.cells #[] 2))
  have hcg := HBG.out.cell
  have HOK := Lib.hid hok
  have s0 := HB0.out.size
  clear hr hg0 hok
  go_enter Tryd.func40, Tryd.ntmps40
  go_upto_region 1 with fail
  rw [← hW0]
  clear hW0
  go_wp2_with (go_at_call 109; refine (specWidthFrom_none _ _ _ g HOK.out h10 _ HG.out HN.out).mono ?_; rintro e w2 ⟨rfl, hb2⟩; have HB2 := Lib.hid (HBA.out.trans (hb2.mono HBA.out.size)); clear hb2)
  go_ret
  exact ⟨rfl, HB0.out.trans (HB2.out.mono s0)⟩

end Go.Proofs.YtiooindlpinjhaaDoor

/- What a law's bytes read as. -/
namespace Go.Proofs.YtiooindlpinjhaaDoor
open Go.RowKit

def ArgB (w : World) (v : Value) (bs : List Int) : Prop := ∃ p c, v = .slice p bs.length c ∧ bs.length ≤ 9223372036854775807 ∧ (∀ x ∈ bs, 0 ≤ x ∧ x ≤ 255) ∧ Cl w p (bs.map (Value.int .u8))
theorem ArgB.below {w w' : World} {v : Value} {bs : List Int} (h : ArgB w v bs) (hb : Below w.heap.size w w') : ArgB w' v bs := by
  obtain ⟨p, c, h1, h2, h3, h4⟩ := h
  exact ⟨p, c, h1, h2, h3, h4.below hb⟩
theorem ArgB.get {w : World} {p : Option Addr} {n c : Nat} {bs : List Int} (h : ArgB w (.slice p n c) bs) {k : Nat} (hk : k < bs.length) :
    ∃ b o, p = some ⟨b, o, none⟩ ∧ w.cell? ⟨b, o + k, none⟩ = some (.int .u8 bs[k]) ∧ 0 ≤ bs[k] ∧ bs[k] ≤ 255 := by
  obtain ⟨p', c', e, _, h3, h4⟩ := h
  cases e
  rcases h4 with h4 | ⟨b, o, rfl, h5⟩
  · rw [List.map_eq_nil_iff] at h4
    subst h4
    simp at hk
  · refine ⟨b, o, rfl, h5 k _ (by simp [hk]), h3 _ (List.getElem_mem hk)⟩

end Go.Proofs.YtiooindlpinjhaaDoor

/- Walks: the reference's draws: numbers (l1New, l1Byte, l1Below, l1Once). -/
namespace Go.Proofs.YtiooindlpinjhaaDoor
open Go.RowKit

structure BoxC (w : World) (b : Nat) (x y z : Value) : Prop where
  blk : w.heap[b]? = some (.cells #[x, y, z] 152 (0, 0))
section
variable {w w' : World} {b : Nat} {x y z : Value}
theorem BoxC.c0 (h : BoxC w b x y z) : w.cell? ⟨b, 0, none⟩ = some x := by unfold World.cell?; rw [h.blk]; rfl
theorem BoxC.c1 (h : BoxC w b x y z) : w.cell? ⟨b, 1, none⟩ = some y := by unfold World.cell?; rw [h.blk]; rfl
theorem BoxC.c2 (h : BoxC w b x y z) : w.cell? ⟨b, 2, none⟩ = some z := by unfold World.cell?; rw [h.blk]; rfl
theorem BoxC.free (h : BoxC w b x y z) (i : Nat) : w.frozen? ⟨b, i, none⟩ = false := by simp [World.frozen?, h.blk]
theorem BoxC.lt (h : BoxC w b x y z) : b < w.heap.size := lt_of_block h.blk
theorem BoxC.new (w : World) (x y z : Value) : BoxC (w.alloc (.cells #[x, y, z] 152)) w.heap.size x y z := ⟨heap_alloc_new w _⟩
theorem BoxC.to (h : BoxC w b x y z) (hk : w'.heap[b]? = w.heap[b]?) : BoxC w' b x y z := ⟨hk.trans h.blk⟩
theorem BoxC.s1 (h : BoxC w b x y z) (u : Value) : BoxC (w.setCell ⟨b, 1, none⟩ u) b x u z := ⟨by have := heap_setCell_same w b 1 _ _ u h.blk; simpa using this⟩
theorem BoxC.s2 (h : BoxC w b x y z) (u : Value) : BoxC (w.setCell ⟨b, 2, none⟩ u) b x y u := ⟨by have := heap_setCell_same w b 2 _ _ u h.blk; simpa using this⟩
theorem BoxC.keep (h : BoxC w b x y z) (hb : Below w.heap.size w w') : BoxC w' b x y z := h.to (hb.block b h.lt)
end
theorem grown_setCell (w : World) (b i : Nat) (u : Value) : w.grownBy (w.setCell ⟨b, i, none⟩ u) (some b) :=
  ⟨rfl, rfl, rfl, by rw [World.size_setCell]; exact Nat.le_refl _, fun k _ hne => Below.heap_setCell _ _ _ _ (fun e => hne (by simp only at e; rw [e]))⟩

/-- The cursor stands in block cb: the bytes, how many were read, a number. -/
structure Cur (w0 w : World) (cb : Nat) (bs : List Int) : Prop where
  ex : ∃ (bv : Value) (i : Nat) (h : Int), BoxC w cb bv (.int .i64 i) (.int .i64 h) ∧ i ≤ bs.length ∧ ArgB w0 bv bs
  few : bs.length ≤ 4096
  lo : w0.heap.size ≤ cb
  bel : Below w0.heap.size w0 w
theorem Cur.keep {w0 w w' : World} {cb : Nat} {bs : List Int} (h : Cur w0 w cb bs) (hb : Below w.heap.size w w') : Cur w0 w' cb bs := by
  obtain ⟨bv, i, z, h1, h2, h3⟩ := h.ex
  exact ⟨⟨bv, i, z, h1.keep hb, h2, h3⟩, h.few, h.lo, h.bel.trans (hb.mono h.bel.size)⟩
theorem below_grownC {w0 w w' : World} {cb : Nat} (h : Below w0.heap.size w0 w) (hg : w.grownBy w' (some cb)) (hl : w0.heap.size ≤ cb) : Below w0.heap.size w0 w' :=
  ⟨hg.os.trans h.os, hg.tape.trans h.tape, hg.output.trans h.output, Nat.le_trans h.size hg.size, fun k hk => (hg.block k (Nat.lt_of_lt_of_le hk h.size) (fun e => by simp only [Option.some.injEq] at e; omega)).trans (h.block k hk)⟩
theorem and255 (x : Int) : ∃ r : Nat, bits BinOp.and IntKind.i64 x 255 = (r : Int) ∧ r ≤ 255 := by
  refine ⟨(BitVec.ofInt 64 x &&& BitVec.ofInt 64 255).toNat, ?_, ?_⟩
  · show IntKind.i64.wrap ((BitVec.ofInt 64 x &&& BitVec.ofInt 64 255).toNat : Int) = _
    have h : (BitVec.ofInt 64 x &&& BitVec.ofInt 64 255).toNat ≤ 255 := by
      rw [BitVec.toNat_and]
      exact Nat.le_trans Nat.and_le_right (by decide)
    rw [IntKind.wrap_i64]
    omega
  · rw [BitVec.toNat_and]
    exact Nat.le_trans Nat.and_le_right (by decide)

set_option maxRecDepth 100000 in
set_option maxHeartbeats 4000000 in
theorem l1Byte_any (w0 : World) (cb : Nat) (bs : List Int) (w : World) (hc : Cur w0 w cb bs) :
    Calls Tryd.prog 162 #[.pointer (some ⟨cb, 0, none⟩)] w fun e w' => ∃ r : Nat, e = .returned (.int .i64 (r : Int)) ∧ r ≤ 255 ∧ Cur w0 w' cb bs ∧ w.grownBy w' (some cb) := by
  obtain ⟨⟨bv, i, h, hb, hi, ha⟩, few, lo, bel⟩ := hc
  obtain ⟨bp, bc, e, ha2⟩ := id ha
  subst e
  have c2 := hb.c2
  have f2 := hb.free 2
  obtain ⟨w1, hw1⟩ : ∃ w1, w1 = w := ⟨_, rfl⟩
  have HB := Lib.hid hb
  have HA := Lib.hid ha
  have HBEL := Lib.hid bel
  clear ha2 ha hb bel
  go_enter Tryd.func162, Tryd.ntmps162
  go_upto_region 1 with fail
  go_cut [12] (fun _ wx => ∃ h2 : Int, wx = w.setCell ⟨cb, 2, none⟩ (.int .i64 h2))
  case first =>
    go_wp2
    go_meet
    exact ⟨_, rfl⟩
  case rest =>
    obtain ⟨h2, rfl⟩ := hcut
    have HB2 := Lib.hid (HB.out.s2 (.int .i64 h2))
    have HG2 := Lib.hid (grown_setCell w cb 2 (.int .i64 h2))
    have c2 := HB2.out.c2
    obtain ⟨w2, hw2⟩ : ∃ w2, w2 = w.setCell ⟨cb, 2, none⟩ (.int .i64 h2) := ⟨_, rfl⟩
    rw [← hw2] at c2 HB2 HG2 ⊢
    clear hw2 f2 hw1
    go_upto_region 2 with fail
    go_cut [3] (fun s wx => ∃ r : Nat, s = .int .i64 (r : Int) ∧ r ≤ 255 ∧ Below w2.heap.size w2 wx)
    case first =>
      go_region_held3 (fun w' => w'.cell? ⟨cb, 2, none⟩ = some (.int .i64 h2))
        (first | go_keep | exact c2)
        (fail)
      all_goals go_wp2
      all_goals go_meet
      all_goals
        obtain ⟨r, e, hr⟩ := and255 (bits BinOp.xor IntKind.i64 (h2 / 2 ^ 33) (h2 / 2 ^ 45))
        exact ⟨r, by rw [← e]; rfl, hr, below_dN (Below.refl _ _) _⟩
    case rest =>
      obtain ⟨r, rfl, hr, hb3⟩ := hcut
      have HB3 := Lib.hid (HB2.out.keep hb3)
      have HG3 := Lib.hid (grown_trans HG2.out (grown_of_below hb3 _))
      have c0 := HB3.out.c0
      have c1 := HB3.out.c1
      clear c2 hb3
      go_upto_region 3 with fail
      go_cut [34] (fun s wx => s = .bool (decide (i < bs.length)) ∧ Below wc.heap.size wc wx)
      case first =>
        go_region_held3 (fun w' => w'.cell? ⟨cb, 1, none⟩ = some (.int .i64 i) ∧ w'.cell? ⟨cb, 0, none⟩ = some (.slice bp bs.length bc))
          (first | go_keep | exact ⟨c1, c0⟩)
          (fail)
        all_goals go_wp2
        all_goals go_meet
        all_goals exact ⟨rfl, below_dN (Below.refl _ _) _⟩
      case rest =>
        obtain ⟨rfl, hb4⟩ := hcut
        have HB4 := Lib.hid (HB3.out.keep hb4)
        have HG4 := Lib.hid (grown_trans HG3.out (grown_of_below hb4 _))
        have HL4 := Lib.hid (below_grownC HBEL.out HG4.out lo)
        have c0 := HB4.out.c0
        have c1 := HB4.out.c1
        clear hb4
        by_cases hlt : i < bs.length
        · obtain ⟨xb, xo, rfl, hcx, hx0, hx1⟩ := (HA.out.below HL4.out).get hlt
          generalize bs[i] = x at hcx hx0 hx1
          have hdt : decide (i < bs.length) = true := by simp [hlt]
          have e0 : (0 : Int) ≤ (i : Int) := by omega
          have e1 : (i : Int) < (bs.length : Int) := by omega
          go_upto_region 4 with fail
          go_cut [3] (fun s wx => ∃ r : Nat, s = .int .i64 (r : Int) ∧ r ≤ 255 ∧ Below wc.heap.size wc wx)
          case first =>
            go_region_held3 (fun w' => w'.cell? ⟨cb, 1, none⟩ = some (.int .i64 i) ∧ w'.cell? ⟨cb, 0, none⟩ = some (.slice (some ⟨xb, xo, none⟩) bs.length bc) ∧ w'.cell? ⟨xb, xo + i, none⟩ = some (.int .u8 x))
              (first | go_keep | exact ⟨c1, c0, hcx⟩)
              (fail)
            all_goals go_wp2
            all_goals go_meet
            all_goals
              refine (and255 ?_).elim fun r' he => ⟨r', by rw [← he.1], he.2, below_dN (Below.refl _ _) _⟩
          case rest =>
            obtain ⟨r2, rfl, hr2, hb5⟩ := hcut
            have HB5 := Lib.hid (HB4.out.keep hb5)
            have HG5 := Lib.hid (grown_trans HG4.out (grown_of_below hb5 _))
            have c1 := HB5.out.c1
            have f1 := HB5.out.free 1
            clear hb5 hcx c0
            go_wp2
            go_ret
            have HB6 := HB5.out.s1 (.int .i64 ((i + 1 : Nat) : Int))
            have HG6 := grown_trans HG5.out (grown_setCell wc cb 1 (.int .i64 ((i + 1 : Nat) : Int)))
            exact ⟨r2, rfl, hr2, ⟨⟨_, i + 1, h2, HB6, by omega, HA.out⟩, few, lo, below_grownC HBEL.out HG6 lo⟩, HG6⟩
        · have hdt : decide (i < bs.length) = false := by simp [hlt]
          go_wp2
          go_ret
          exact ⟨r, rfl, hr, ⟨⟨_, i, h2, HB4.out, hi, HA.out⟩, few, lo, HL4.out⟩, HG4.out⟩

set_option maxRecDepth 100000 in
set_option maxHeartbeats 4000000 in
theorem l1Below_any (w0 : World) (cb : Nat) (bs : List Int) (n : Int) (hn : n ≤ 9223372036854775807) (w : World) (hc : Cur w0 w cb bs) :
    Calls Tryd.prog 148 #[.pointer (some ⟨cb, 0, none⟩), .int .i64 n] w fun e w' => ∃ r : Nat, e = .returned (.int .i64 (r : Int)) ∧ (0 < n → (r : Int) < n) ∧ (n ≤ 0 → r = 0) ∧ Cur w0 w' cb bs ∧ w.grownBy w' (some cb) := by
  have HC := Lib.hid hc
  clear hc
  by_cases h0 : n ≤ 0
  · go_enter Tryd.func148, Tryd.ntmps148
    go_wp2
    go_ret
    exact ⟨0, rfl, fun h => by omega, fun _ => rfl, HC.out, grown_of_below (Below.refl _ _) _⟩
  · obtain ⟨k, rfl⟩ : ∃ k : Nat, n = (k : Int) := ⟨n.toNat, by omega⟩
    have hkp : 0 < k := by omega
    have hk0 : ((k : Int) == 0) = false := by simp; omega
    have htm : ∀ r : Nat, Int.tmod (r : Int) (k : Int) = ((r % k : Nat) : Int) := fun r => (Int.ofNat_tmod r k).symm
    have HML : Hid (∀ r : Nat, r % k < k) := Lib.hid (fun r => Nat.mod_lt r hkp)
    by_cases h256 : (k : Int) ≤ 256
    · go_enter Tryd.func148, Tryd.ntmps148
      go_wp2_with (go_at_call 162; refine (l1Byte_any w0 cb bs _ HC.out).mono ?_; rintro e w2 ⟨r, rfl, hr, hc2, hg2⟩; have HC2 := Lib.hid hc2; have HG2 := Lib.hid hg2; clear hc2 hg2)
      go_ret
      exact ⟨r % k, rfl, fun _ => by have := HML.out r; omega, fun h => by omega, HC2.out, HG2.out⟩
    · go_enter Tryd.func148, Tryd.ntmps148
      go_upto_region 6 with (go_at_call 162; refine (l1Byte_any w0 cb bs _ HC.out).mono ?_; rintro e w2 ⟨r1, rfl, hr1, hc2, hg2⟩; have HC2 := Lib.hid hc2; have HG2 := Lib.hid hg2; clear hc2 hg2)
      go_upto_region 7 with (go_at_call 162; refine (l1Byte_any w0 cb bs _ HC2.out).mono ?_; rintro e w3 ⟨r2, rfl, hr2, hc2, hg2⟩; have HC3 := Lib.hid hc2; have HG3 := Lib.hid (grown_trans HG2.out hg2); clear hc2 hg2)
      go_upto_region 8 with (go_at_call 162; refine (l1Byte_any w0 cb bs _ HC3.out).mono ?_; rintro e w4 ⟨r3, rfl, hr3, hc2, hg2⟩; have HC4 := Lib.hid hc2; have HG4 := Lib.hid (grown_trans HG3.out hg2); clear hc2 hg2)
      go_upto_region 9 with (go_at_call 162; refine (l1Byte_any w0 cb bs _ HC4.out).mono ?_; rintro e w5 ⟨r4, rfl, hr4, hc2, hg2⟩; have HC5 := Lib.hid hc2; have HG5 := Lib.hid (grown_trans HG4.out hg2); clear hc2 hg2)
      have hsum : ((r1 : Int) * 16777216 + (r2 : Int) * 65536 + (r3 : Int) * 256 + (r4 : Int)) = ((r1 * 16777216 + r2 * 65536 + r3 * 256 + r4 : Nat) : Int) := by omega
      have htm2 := htm (r1 * 16777216 + r2 * 65536 + r3 * 256 + r4)
      rw [← hsum] at htm2
      have HML2 := Lib.hid (HML.out (r1 * 16777216 + r2 * 65536 + r3 * 256 + r4))
      generalize (r1 * 16777216 + r2 * 65536 + r3 * 256 + r4) % k = r at htm2 HML2
      clear hsum htm
      go_wp2
      go_ret
      exact ⟨r, by first | rfl | (rw [← htm2]; rfl), fun _ => by have := HML2.out; omega, fun h => by omega, HC5.out, HG5.out⟩

set_option maxRecDepth 100000 in
set_option maxHeartbeats 1000000 in
theorem l1Once_any (w0 : World) (cb : Nat) (bs : List Int) (n : Int) (hn : n ≤ 9223372036854775807) (w : World) (hc : Cur w0 w cb bs) :
    Calls Tryd.prog 147 #[.pointer (some ⟨cb, 0, none⟩), .int .i64 n] w fun e w' => ∃ b : Bool, e = .returned (.bool b) ∧ Cur w0 w' cb bs ∧ w.grownBy w' (some cb) := by
  have HC := Lib.hid hc
  clear hc
  go_enter Tryd.func147, Tryd.ntmps147
  go_wp2_with (go_at_call 148; refine (l1Below_any w0 cb bs n hn _ HC.out).mono ?_; rintro e w2 ⟨r, rfl, _, _, hc2, hg2⟩; have HC2 := Lib.hid hc2; have HG2 := Lib.hid hg2; clear hc2 hg2)
  go_ret
  exact ⟨_, rfl, HC2.out, HG2.out⟩

end Go.Proofs.YtiooindlpinjhaaDoor
