/- Walks: BlocksOf, BlocksAt, TwoConnectedIn. -/
import Derived.Test.YtkppbmfliejnmaaDoorBkQ37
namespace Go.Proofs.YtkppbmfliejnmaaDoor
open Go.RowKit Go.Sort

theorem blk16 {g : List (List Int)} (hok : GOk g) {B : List (List Nat)} (hB : BlkG (ofG g) g.length B) : ∀ l ∈ B, l.Pairwise (· < ·) ∧ ∀ y ∈ l, y < 16 := fun l hl => ⟨hB.ris l hl, fun y hy => by have := hB.sub l hl y hy; have := hok.le; omega⟩
theorem rows_mskB {B : List (List Nat)} (h : ∀ l ∈ B, l.Pairwise (· < ·) ∧ ∀ y ∈ l, y < 16) : rowsOf (mskC B) = B.map natInts := by
  unfold rowsOf mskC
  rw [List.map_map]
  refine List.map_congr_left fun l hl => ?_
  simp only [Function.comp]
  rw [bitsOf_maskN (h l hl).1 (h l hl).2]

set_option maxRecDepth 100000 in
set_option maxHeartbeats 4000000 in
theorem implBlocksOf_yes (v : Value) (g : List (List Int)) (w : World) (hg : Gr w v g) (hok : GOk g) (hT : Tab w) :
    Calls Tryd.prog 78 #[v] w fun e w' => ∃ (u : Value) (B : List (List Nat)), e = .returned u ∧ B.Perm (blkA (ofG g) g.length) ∧ DG w' w.heap.size (.agg #[u]) (B.map natInts) ∧ Below w.heap.size w w' := by
  have hg0 := hg
  obtain ⟨u, rfl, hr⟩ := hg
  obtain ⟨p, c, rfl, _⟩ := hr.shape
  obtain ⟨W0, hW0⟩ : ∃ W0, W0 = w.alloc (.cells #[.slice p g.length c] 29) := ⟨_, rfl⟩
  have hb0 : Below w.heap.size w W0 := by rw [hW0]; exact below_alloc _ _
  have HB0 := Lib.hid hb0
  have HBG : Hid (Box W0 w.heap.size 29 (.slice p g.length c)) := Lib.hid (by rw [hW0]; exact Box.new _ _ _)
  have HG := Lib.hid (hg0.below hb0)
  have HT := Lib.hid (hT.keep hb0)
  have HOK := Lib.hid hok
  have HDT := Lib.hid (dec_true hok)
  have h16 := hok.le
  have c0 := HBG.out.cell
  clear hr hg0 hb0 hok hT
  go_enter Tryd.func78, Tryd.ntmps78
  go_upto_region 1 with fail
  rw [← hW0]
  clear hW0
  go_wp2_with (first
    | (go_at_call 113; refine (results_any _ (mskC B) HM32.out HML.out _ HSL.out (HT.out.keep HB4.out)).mono ?_; rintro e w5 ⟨rv, rfl, hd5, hb5⟩; have HD5 := Lib.hid hd5; have HB5 := Lib.hid (HB4.out.trans (hb5.mono HB4.out.size)); have HZ5 := Lib.hid HB4.out.size; clear hd5 hb5)
    | (go_at_call 172; refine (blocksOf_any g.length (ofG g) (ofG_sym HOK.out) (ofG_irr HOK.out) HOK.out.pos xp xc _ HNA.out (HT.out.keep HB3.out)).mono ?_; rintro e w4 ⟨bv, B, rfl, hpm, hob, hb4⟩; have HPM := Lib.hid hpm; have HB4 := Lib.hid (HB3.out.trans (hb4.mono HB3.out.size)); (have HBG2 : Hid (BlkG (ofG g) g.length B) := Lib.hid ((blkA_ok (ofG_sym HOK.out) (ofG_irr HOK.out) HOK.out.pos).perm hpm)); (have HM32 : Hid (∀ s ∈ mskC B, s < 4294967296) := Lib.hid (fun s hs => by obtain ⟨l, hl, rfl⟩ := List.mem_map.1 hs; exact Nat.lt_trans (mask_nat_lt16 (blk16 HOK.out HBG2.out l hl).2) (by decide))); (have HML : Hid ((mskC B).length ≤ 100000) := Lib.hid (by have := HBG2.out.len; simp only [mskC, List.length_map]; omega)); (have HSL : Hid (Sl w4 70 bv (mskC B).length ((mskC B).map u32v)) := Lib.hid (by have h1 := Sl.of_owns hob (by have := HBG2.out.len; omega); rw [show (mskC B).length = B.length by simp [mskC]]; exact h1)); clear hpm hob hb4)
    | (go_at_call 89; refine (netsOf_any _ g _ (HG.out.below HB2.out) HOK.out).mono ?_; rintro e w3 ⟨x, rfl, ho, hb3⟩; have HNA := Lib.hid (neOf HOK.out ho); obtain ⟨xp, xc, rfl⟩ := owns_shapeC ho; have HB3 := Lib.hid (HB2.out.trans (hb3.mono HB2.out.size)); clear ho hb3)
    | (go_at_call 87; refine (implGraphOk_any _ g _ HG.out).mono ?_; rintro e w2 ⟨he, hb2⟩; rw [HDT.out] at he; subst he; have HB2 := Lib.hid hb2; have c0 := hb2.at' c0; clear hb2))
  go_ret
  have hd := HD5.out
  rw [rows_mskB (blk16 HOK.out HBG2.out)] at hd
  exact ⟨_, B, rfl, HPM.out, DG.base hd (Nat.le_trans HB0.out.size HZ5.out), HB0.out.trans (HB5.out.mono HB0.out.size)⟩

set_option maxRecDepth 100000 in
set_option maxHeartbeats 4000000 in
theorem implBlocksAt_yes (v : Value) (y : Int) (x : Nat) (hy : y = x) (g : List (List Int)) (hx : x < g.length) (w : World) (hg : Gr w v g) (hok : GOk g) (hT : Tab w) :
    Calls Tryd.prog 83 #[v, .int .i64 y] w fun e w' => ∃ p c, e = .returned (.slice p ((blkA (ofG g) g.length).filter (has1 x)).length c) ∧ Below w.heap.size w w' := by
  subst hy
  have hg0 := hg
  obtain ⟨u, rfl, hr⟩ := hg
  obtain ⟨p, c, rfl, _⟩ := hr.shape
  obtain ⟨W0, hW0⟩ : ∃ W0, W0 = w.alloc (.cells #[.slice p g.length c] 29) := ⟨_, rfl⟩
  have hb0 : Below w.heap.size w W0 := by rw [hW0]; exact below_alloc _ _
  have HB0 := Lib.hid hb0
  have HBG : Hid (Box W0 w.heap.size 29 (.slice p g.length c)) := Lib.hid (by rw [hW0]; exact Box.new _ _ _)
  have HG := Lib.hid (hg0.below hb0)
  have HT := Lib.hid (hT.keep hb0)
  have HOK := Lib.hid hok
  have HVX := Lib.hid (dec_true (show (0 : Int) ≤ (x : Int) ∧ (x : Int) < g.length from ⟨by omega, by omega⟩))
  have h16 := hok.le
  have c0 := HBG.out.cell
  clear hr hg0 hb0 hok hT
  go_enter Tryd.func83, Tryd.ntmps83
  go_upto_region 1 with fail
  rw [← hW0]
  clear hW0
  go_upto_region 3 with (go_at_call 121; refine (isVertexE_any _ g _ HOK.out _ HG.out).mono ?_; rintro e w2 ⟨he, hb2⟩; rw [HVX.out] at he; subst he; have HB2 := Lib.hid hb2; have c0 := hb2.at' c0; clear hb2)
  obtain ⟨w3, hw3⟩ : ∃ w3, w3 = w2.alloc (.cells #[] 2) := ⟨_, rfl⟩
  have hb23 : Below w2.heap.size w2 w3 := by rw [hw3]; exact below_alloc _ _
  have HO3 : Hid (w3.ownsRow w2.heap.size 2 1 (.slice (some ⟨w2.heap.size, 0, none⟩) 0 0) 0 []) := Lib.hid (by rw [hw3]; exact ownsRow_empty _ _ _)
  have HB3 := Lib.hid (HB2.out.trans (hb23.mono HB2.out.size))
  have d0 := hb23.at' c0
  go_upto_region 4 with fail
  rw [← hw3]
  have hz2 : W0.heap.size ≤ w2.heap.size := HB2.out.size
  have hz3 : w2.heap.size ≤ w3.heap.size := hb23.size
  clear hw3 hb23 c0
  obtain ⟨b0, hb0⟩ : ∃ b0, b0 = w2.heap.size := ⟨_, rfl⟩
  rw [← hb0] at HO3 hz2 hz3 ⊢
  clear hb0
  go_wp2_with (first
    | (go_at_call 172; refine (blocksOf_any g.length (ofG g) (ofG_sym HOK.out) (ofG_irr HOK.out) HOK.out.pos xp xc _ HNA.out (HT.out.keep HB4.out)).mono ?_; rintro e w5 ⟨bv, B, rfl, hpm, hob, hb5⟩; have hz45 := hb5.size; have HPM := Lib.hid hpm; have HOB := Lib.hid hob; have HO5 := Lib.hid (ownsRow_below HO4.out hb5); have HB5 := Lib.hid (HB4.out.trans (hb5.mono HB4.out.size)); obtain ⟨bp, bc, rfl⟩ := owns_shapeC hob; clear hpm hob hb5)
    | (go_at_call 89; refine (netsOf_any _ g _ (HG.out.below HB3.out) HOK.out).mono ?_; rintro e w4 ⟨xv, rfl, ho, hb4⟩; have hz34 := hb4.size; have HNA := Lib.hid (neOf HOK.out ho); obtain ⟨xp, xc, rfl⟩ := owns_shapeC ho; have HO4 := Lib.hid (ownsRow_below HO3.out hb4); have HB4 := Lib.hid (HB3.out.trans (hb4.mono HB3.out.size)); clear ho hb4))
  have HBG2 : Hid (BlkG (ofG g) g.length B) := Lib.hid ((blkA_ok (ofG_sym HOK.out) (ofG_irr HOK.out) HOK.out.pos).perm HPM.out)
  have hBl : B.length ≤ 16 := Nat.le_trans HBG2.out.len h16
  have HSL : Hid (Sl w5 70 (.slice bp B.length bc) B.length ((mskC B).map u32v)) := Lib.hid (Sl.of_owns HOB.out (by omega))
  have hz5 := HB5.out.size
  clear HO3 HO4 HNA HOB d0
  go_loopw [5, 6, 7, 17] (fun ov _ _ iv wr => ∃ (m : Nat) (xs : List Value), m ≤ B.length ∧ iv = .int .i64 (m : Int) ∧ Hid (xs.length = ((B.take m).filter (has1 x)).length) ∧ Hid (wr.ownsRow b0 2 1 ov xs.length xs) ∧ Hid (Below W0.heap.size W0 wr) ∧ Hid (Sl wr 70 (.slice bp B.length bc) B.length ((mskC B).map u32v)) ∧ w5.heap.size ≤ wr.heap.size) (fun _ _ _ iv _ => B.length - (intOf iv).toNat)
  case atStart => exact ⟨0, [], Nat.zero_le _, rfl, Lib.hid (by simp), HO5, HB5, HSL, Nat.le_refl _⟩
  case round =>
    clear HO5 HB5 HSL
    obtain ⟨m, xs, hm, rfl, HL, HO, HB, HS, hz⟩ := hrel
    have hxl : xs.length ≤ 16 := by
      rw [HL.out]
      exact Nat.le_trans (List.length_filter_le _ _) (by rw [List.length_take]; omega)
    by_cases hlt : m < B.length
    · have hki : (m : Int) < (B.length : Int) := by omega
      obtain ⟨b, hb⟩ : ∃ b, b = B[m] := ⟨_, rfl⟩
      have hbm : b ∈ B := by rw [hb]; exact List.getElem_mem hlt
      obtain ⟨nb, no, rfl, hcell⟩ := nets_cell (a := mskC B) (by rw [show (mskC B).length = B.length by simp [mskC]]; exact HS.out) (v := m) (by simp [mskC]; exact hlt)
      have e1 : (mskC B)[m]'(by simp [mskC]; exact hlt) = mask (natInts b) := by simp [mskC, hb]
      rw [e1] at hcell
      obtain ⟨mp, hmp⟩ : ∃ mp, mp = mask (natInts b) := ⟨_, rfl⟩
      rw [← hmp] at hcell
      have hmp16 : mp < 65536 := by rw [hmp]; exact mask_nat_lt16 (blk16 HOK.out HBG2.out b hbm).2
      have HTK : Hid (B.take (m + 1) = B.take m ++ [b]) := Lib.hid (by rw [take_snoc' B m hlt, hb])
      have hbit : mp.testBit x = has1 x b := by rw [hmp, mask_bit]; rfl
      have hown := HO.out
      have hsz : b0 ≤ wr.heap.size := by omega
      cases hh : has1 x b
      · have HHB : Hid (mp.testBit x = false) := Lib.hid (by rw [hbit, hh])
        have HNEW : Hid (xs.length = ((B.take (m + 1)).filter (has1 x)).length) := Lib.hid (by rw [HTK.out, List.filter_append, List.length_append, HL.out]; simp [hh])
        clear hb hbm e1 hmp hbit hh hown
        go_wp2_with (go_at_call 175; refine (has_any _ _ mp x rfl rfl (by omega) (by omega) _).mono ?_; rintro e wa ⟨he, rfl⟩; rw [HHB.out] at he; subst he)
        go_roundw
        case rel => exact ⟨m + 1, xs, by omega, by go_num, HNEW, HO, HB, HS, hz⟩
        case measure => simp [intOf]; omega
      · have HHB : Hid (mp.testBit x = true) := Lib.hid (by rw [hbit, hh])
        have HNEW : Hid (xs.length + 1 = ((B.take (m + 1)).filter (has1 x)).length) := Lib.hid (by rw [HTK.out, List.filter_append, List.length_append, HL.out]; simp [hh])
        clear hb hbm e1 hmp hbit hh
        go_wp2_with (first
          | (go_at_call 175; refine (has_any _ _ mp x rfl rfl (by omega) (by omega) _).mono ?_; rintro e wa ⟨he, rfl⟩; rw [HHB.out] at he; subst he)
          | (at_builtin; refine wpList_app1 ty_i64 rfl rfl rfl hown rfl rfl (by omega) hsz ?_; intro v7 w7 hown7 hg7 _))
        have HO7 := Lib.hid hown7
        have HB7 := Lib.hid (below_grown HB.out hown hg7 hz2 HB.out.size)
        have HS7 := Lib.hid (Sl.other HS.out hown hg7 (by decide))
        have hz7 := hg7.size
        go_roundw
        case rel => exact ⟨m + 1, xs ++ [.int .i64 (m : Int)], by omega, by go_num, Lib.hid (by rw [List.length_append]; exact HNEW.out), Lib.hid (by rw [List.length_append]; exact HO7.out), HB7, HS7, by omega⟩
        case measure => simp [intOf]; omega
    · obtain rfl : m = B.length := by omega
      rw [List.take_length] at HL
      have HPF : Hid ((B.filter (has1 x)).length = ((blkA (ofG g) g.length).filter (has1 x)).length) := Lib.hid ((HPM.out.filter _).length_eq)
      obtain ⟨op, oc, hov⟩ := owns_shapeC HO.out
      subst hov
      rw [HL.out, HPF.out] at HO ⊢
      go_wp2_with fail
      go_ret
      exact ⟨op, oc, rfl, HB0.out.trans (HB.out.mono HB0.out.size)⟩

def TwoC (g : List (List Int)) : Prop := 2 < g.length ∧ ConnA (ofG g) (List.range g.length) ∧ ∀ x, ¬ CutV (ofG g) (List.range g.length) x
set_option maxRecDepth 100000 in
set_option maxHeartbeats 4000000 in
theorem implTwoConnected_yes (v : Value) (g : List (List Int)) (w : World) (hg : Gr w v g) (hok : GOk g) (hT : Tab w) :
    Calls Tryd.prog 84 #[v] w fun e w' => e = .returned (.bool (dec (TwoC g))) ∧ Below w.heap.size w w' := by
  have hg0 := hg
  obtain ⟨u, rfl, hr⟩ := hg
  obtain ⟨p, c, rfl, _⟩ := hr.shape
  obtain ⟨W0, hW0⟩ : ∃ W0, W0 = w.alloc (.cells #[.slice p g.length c] 29) := ⟨_, rfl⟩
  have hb0 : Below w.heap.size w W0 := by rw [hW0]; exact below_alloc _ _
  have HB0 := Lib.hid hb0
  have HBG : Hid (Box W0 w.heap.size 29 (.slice p g.length c)) := Lib.hid (by rw [hW0]; exact Box.new _ _ _)
  have HG := Lib.hid (hg0.below hb0)
  have HT := Lib.hid (hT.keep hb0)
  have HOK := Lib.hid hok
  have HDT := Lib.hid (dec_true hok)
  have h16 := hok.le
  have c0 := HBG.out.cell
  clear hr hg0 hb0 hT
  by_cases h3 : g.length < 3
  · have h3i : (g.length : Int) < 3 := by omega
    have HNO : Hid (dec (TwoC g) = false) := Lib.hid (dec_false fun k => by have := k.1; omega)
    clear h3 hok
    go_enter Tryd.func84, Tryd.ntmps84
    go_upto_region 1 with fail
    rw [← hW0]
    clear hW0
    go_wp2_with (go_at_call 87; refine (implGraphOk_any _ g _ HG.out).mono ?_; rintro e w2 ⟨he, hb2⟩; rw [HDT.out] at he; subst he; have c0 := hb2.at' c0)
    go_ret
    exact ⟨by rw [HNO.out]; rfl, HB0.out.trans (hb2.mono HB0.out.size)⟩
  have h3i : ¬ (g.length : Int) < 3 := by omega
  obtain ⟨M, hM⟩ : ∃ M, M = 2 ^ g.length - 1 := ⟨_, rfl⟩
  have hM16 : M < 65536 := by
    have h2 : 2 ^ g.length ≤ 2 ^ 16 := Nat.pow_le_pow_right (by decide) h16
    have h3 : (2 : Nat) ^ 16 = 65536 := by decide
    have h4 : 0 < 2 ^ g.length := Nat.pow_pos (by decide)
    omega
  have hMn : ∀ i, M.testBit i = true → i < g.length := fun i hi => by rw [hM, testBit_firstOf, decide_eq_true_eq] at hi; exact hi
  have hMb : bitsOf M = List.range g.length := bits_rise List.pairwise_lt_range hM16 fun x => by rw [hM, testBit_firstOf, List.mem_range, decide_eq_true_eq]
  have ALL : Hid (∀ (q : Option Addr) (d : Nat) (wz : World), Calls Tryd.prog 106 #[.slice q g.length d] wz fun e w' => e = .returned (.int .u32 (M : Int)) ∧ wz = w') := Lib.hid fun q d wz => by rw [hM]; exact all_any q g.length d (by omega) wz
  have CON : Hid (∀ wz (q : Option Addr) (d : Nat), NE wz (.slice q g.length d) g.length (ofG g) → Tab wz → Calls Tryd.prog 176 #[.slice q g.length d, .int .u32 (M : Int)] wz fun e w' => e = .returned (.bool (dec (ConnA (ofG g) (List.range g.length)))) ∧ Below wz.heap.size wz w') := Lib.hid fun wz q d h ht => by
    have := connected_any (.slice q g.length d) _ g.length (ofG g) M rfl hM16 hMn wz h ht
    rw [hMb, ← dec_congr (connA_iff (ofG_sym HOK.out))] at this
    exact this
  have CUT : Hid (∀ wz (q : Option Addr) (d : Nat), NE wz (.slice q g.length d) g.length (ofG g) → Tab wz → Calls Tryd.prog 173 #[.slice q g.length d, .int .u32 (M : Int)] wz fun e w' => ∃ m : Nat, e = .returned (.int .u32 (m : Int)) ∧ (m = 0 ↔ ∀ x, ¬ CutV (ofG g) (List.range g.length) x) ∧ Below wz.heap.size wz w') := Lib.hid fun wz q d h ht => by
    refine (cutVertices_any (.slice q g.length d) _ g.length (ofG g) M rfl hM16 hMn wz h ht).mono ?_
    rintro e w' ⟨m, rfl, hm, hb, _, hbw⟩
    rw [hMb] at hb
    refine ⟨m, rfl, ⟨fun e x hx => ?_, fun h => ?_⟩, hbw⟩
    · have := (hb x).2 hx
      rw [e] at this
      simp at this
    · refine Nat.eq_of_testBit_eq fun i => ?_
      rw [Nat.zero_testBit, Bool.eq_false_iff]
      exact fun k => h i ((hb i).1 k)
  have H3 : Hid (2 < g.length) := Lib.hid (by omega)
  clear hM hM16 hMn hMb h3
  by_cases hc : ConnA (ofG g) (List.range g.length)
  · have HDC := Lib.hid (dec_true hc)
    have HTW : Hid (∀ m : Nat, (m = 0 ↔ ∀ x, ¬ CutV (ofG g) (List.range g.length) x) → ((m : Int) == 0) = dec (TwoC g)) := Lib.hid fun m hm => by
      by_cases h : m = 0
      · rw [dec_true ⟨H3.out, hc, hm.1 h⟩, h]; rfl
      · rw [dec_false fun k => h (hm.2 k.2.2)]
        simp
        omega
    clear hc hok
    go_enter Tryd.func84, Tryd.ntmps84
    go_upto_region 1 with fail
    rw [← hW0]
    clear hW0
    go_wp2_with (first
      | (have X := HB4; go_at_call 173; refine (CUT.out _ _ _ (HNA.out.next hb4) (HT.out.keep HB4.out)).mono ?_; rintro e w5 ⟨m, rfl, hm, hb5⟩; have HM := Lib.hid hm; clear hm)
      | (go_at_call 176; refine (CON.out _ _ _ HNA.out (HT.out.keep HB3.out)).mono ?_; rintro e w4 ⟨he, hb4⟩; rw [HDC.out] at he; subst he; have HB4 := Lib.hid (HB3.out.trans (hb4.mono HB3.out.size)))
      | (go_at_call 106; refine (ALL.out _ _ _).mono ?_; rintro e w9 ⟨rfl, rfl⟩)
      | (go_at_call 89; refine (netsOf_any _ g _ (HG.out.below HB2.out) HOK.out).mono ?_; rintro e w3 ⟨xv, rfl, ho, hb3⟩; have HNA := Lib.hid (neOf HOK.out ho); obtain ⟨xp, xc, rfl⟩ := owns_shapeC ho; have HB3 := Lib.hid (HB2.out.trans (hb3.mono HB2.out.size)); clear ho hb3)
      | (go_at_call 87; refine (implGraphOk_any _ g _ HG.out).mono ?_; rintro e w2 ⟨he, hb2⟩; rw [HDT.out] at he; subst he; have HB2 := Lib.hid hb2; have c0 := hb2.at' c0; clear hb2))
    go_ret
    exact ⟨ret_bool (HTW.out m HM.out), HB0.out.trans ((HB4.out.trans (hb5.mono HB4.out.size)).mono HB0.out.size)⟩
  · have HDC := Lib.hid (dec_false hc)
    have HNO : Hid (dec (TwoC g) = false) := Lib.hid (dec_false fun k => hc k.2.1)
    clear hc hok
    go_enter Tryd.func84, Tryd.ntmps84
    go_upto_region 1 with fail
    rw [← hW0]
    clear hW0
    go_wp2_with (first
      | (go_at_call 176; refine (CON.out _ _ _ HNA.out (HT.out.keep HB3.out)).mono ?_; rintro e w4 ⟨he, hb4⟩; rw [HDC.out] at he; subst he; have HB4 := Lib.hid (HB3.out.trans (hb4.mono HB3.out.size)))
      | (go_at_call 106; refine (ALL.out _ _ _).mono ?_; rintro e w9 ⟨rfl, rfl⟩)
      | (go_at_call 89; refine (netsOf_any _ g _ (HG.out.below HB2.out) HOK.out).mono ?_; rintro e w3 ⟨xv, rfl, ho, hb3⟩; have HNA := Lib.hid (neOf HOK.out ho); obtain ⟨xp, xc, rfl⟩ := owns_shapeC ho; have HB3 := Lib.hid (HB2.out.trans (hb3.mono HB2.out.size)); clear ho hb3)
      | (go_at_call 87; refine (implGraphOk_any _ g _ HG.out).mono ?_; rintro e w2 ⟨he, hb2⟩; rw [HDT.out] at he; subst he; have HB2 := Lib.hid hb2; have c0 := hb2.at' c0; clear hb2))
    go_ret
    exact ⟨by rw [HNO.out]; rfl, HB0.out.trans (HB4.out.mono HB0.out.size)⟩

end Go.Proofs.YtkppbmfliejnmaaDoor
