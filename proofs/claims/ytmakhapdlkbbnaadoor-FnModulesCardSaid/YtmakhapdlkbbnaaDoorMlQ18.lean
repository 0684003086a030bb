/- Walks: l17Splits, l17Splitter (the reference's modules). -/
import Derived.Test.YtmakhapdlkbbnaaDoorMlQ13
import Derived.Test.YtmakhapdlkbbnaaDoorMlQ14
import Derived.Test.YtmakhapdlkbbnaaDoorMlQ17
import Derived.Deep.RegionHeld3
import Derived.Deep.DeepCutAuto
namespace Go.Proofs.YtmakhapdlkbbnaaDoor
open Go.RowKit

/-- How many of the first k are neighbours. -/
def cntM (g : List (List Int)) (v : Nat) (L : List Nat) (k : Nat) : Nat := ((L.take k).filter fun (j : Nat) => decide (((j : Nat) : Int) ∈ row g v)).length
theorem cntM_le (g : List (List Int)) (v : Nat) (L : List Nat) (k : Nat) : cntM g v L k ≤ k := Nat.le_trans (List.length_filter_le _ _) (by rw [List.length_take]; omega)
theorem cntM_succ {g : List (List Int)} {v k : Nat} {L : List Nat} (h : k < L.length) : cntM g v L (k + 1) = if ((L[k] : Nat) : Int) ∈ row g v then cntM g v L k + 1 else cntM g v L k := by
  unfold cntM
  rw [take_snoc _ k h, List.filter_append, List.length_append]
  by_cases hm : ((L[k] : Nat) : Int) ∈ row g v
  · rw [if_pos hm]; simp [hm]
  · rw [if_neg hm]; simp [hm]
theorem cntM_zero {g : List (List Int)} (hg : GOk g) {v s : Nat} (hv : v < g.length) (hs : s < 65536) : cntM g v (bitsOf s) (bitsOf s).length = 0 ↔ mask (row g v) &&& s = 0 := by
  unfold cntM
  rw [List.take_length, List.length_eq_zero_iff, List.filter_eq_nil_iff]
  constructor
  · intro h
    refine Nat.eq_of_testBit_eq fun j => ?_
    rw [Nat.testBit_and, Nat.zero_testBit]
    by_cases hj : s.testBit j = true
    · have := h j ((mem_bitsOf' (by omega)).2 hj)
      rw [decide_eq_true_iff, ← testBit_row hg hv] at this
      simp [this]
    · simp [hj]
  · intro h j hj
    rw [decide_eq_true_iff, ← testBit_row hg hv]
    intro hb
    have := congrArg (fun z => z.testBit j) h
    simp only [Nat.testBit_and, Nat.zero_testBit, hb, (mem_bitsOf' (by omega)).1 hj] at this
    exact nomatch this
theorem cntM_all {g : List (List Int)} (hg : GOk g) {v s : Nat} (hv : v < g.length) (hs : s < 65536) : cntM g v (bitsOf s) (bitsOf s).length = (bitsOf s).length ↔ mask (row g v) &&& s = s := by
  unfold cntM
  rw [List.take_length, List.length_filter_eq_length_iff]
  constructor
  · intro h
    refine Nat.eq_of_testBit_eq fun j => ?_
    rw [Nat.testBit_and]
    by_cases hj : s.testBit j = true
    · have := h j ((mem_bitsOf' (by omega)).2 hj)
      rw [decide_eq_true_iff, ← testBit_row hg hv] at this
      simp [this]
    · simp [hj]
  · intro h j hj
    rw [decide_eq_true_iff, ← testBit_row hg hv]
    have hb := (mem_bitsOf' (by omega : s < 4294967296)).1 hj
    have := congrArg (fun z => z.testBit j) h
    simp only [Nat.testBit_and, hb, Bool.and_true] at this
    exact this
/-- v splits s. -/
def SplN (g : List (List Int)) (v s : Nat) : Prop := ¬ (mask (row g v) &&& s = 0 ∨ mask (row g v) &&& s = s)
theorem spl_cnt {g : List (List Int)} (hg : GOk g) {v s : Nat} (hv : v < g.length) (hs : s < 65536) : SplN g v s ↔ 0 < cntM g v (bitsOf s) (bitsOf s).length ∧ cntM g v (bitsOf s) (bitsOf s).length < (bitsOf s).length := by
  have h1 := cntM_zero hg hv hs
  have h2 := cntM_all hg hv hs
  have h3 := cntM_le g v (bitsOf s) (bitsOf s).length
  unfold SplN
  rw [← h1, ← h2]
  omega
theorem mod_iff {g : List (List Int)} {s : Nat} : ModN g s ↔ ∀ v, v < g.length → ¬ (s.testBit v = false ∧ SplN g v s) := by
  unfold ModN SplN
  constructor
  · intro h v hv ⟨h1, h2⟩
    exact h2 (h v hv h1)
  · intro h v hv h1
    exact Decidable.byContradiction fun h2 => h v hv ⟨h1, h2⟩

set_option maxRecDepth 100000 in
set_option maxHeartbeats 2000000 in
theorem l17Splits_any (v lv : Value) (g : List (List Int)) (hok : GOk g) (s y : Nat) (hs : s < 2 ^ g.length) (hy : y < g.length) (w : World) (hg : Gr w v g) (hl : Nums w 2 .i64 lv (natInts (bitsOf s))) :
    Calls Tryd.prog 178 #[v, lv, .int .i64 y] w fun e w' => e = .returned (.bool (dec (SplN g y s))) ∧ Below w.heap.size w w' := by
  obtain ⟨u, rfl, hr⟩ := hg
  obtain ⟨p, c, rfl, _⟩ := hr.shape
  obtain ⟨lp, lc, rfl, _⟩ := id hl.shape
  have h16 := hok.le
  obtain ⟨hcand, hs16⟩ := cand_bits h16 hs
  have hlen : (bitsOf s).length ≤ 16 := by
    by_cases he : bitsOf s = []
    · rw [he]; simp
    · have := rising_room hcand.ris hcand.inn he
      omega
  have HSP := Lib.hid (spl_cnt hok hy hs16)
  have HR := Lib.hid hr
  have HL := Lib.hid hl
  have hbA := Lib.hid (below_alloc w (.cells #[.slice p g.length c] 29))
  have BX := Lib.hid (Box.new w (.slice p g.length c) 29)
  generalize hLL : bitsOf s = L at HL hlen HSP
  clear hr hl hcand hok hLL
  simp only [natInts_length] at *
  go_enter Tryd.func178, Tryd.ntmps178
  go_wp2
  go_loopw [7, 8] (fun m i wr => ∃ k, k ≤ L.length ∧ i = .int .i64 k ∧ m = .int .i64 (cntM g y L k) ∧ Below w.heap.size w wr ∧ Box wr w.heap.size 29 (.slice p g.length c)) (fun _ i _ => L.length - (intOf i).toNat)
  case atStart => exact ⟨0, Nat.zero_le _, rfl, by simp [cntM], hbA.out, BX.out⟩
  case round =>
    obtain ⟨k, hk, rfl, rfl, hbel, hbx⟩ := hrel
    have hc := hbx.cell
    have Hbel := Lib.hid hbel
    have Hbx := Lib.hid hbx
    have hcl := cntM_le g y L k
    clear hbel hbx
    by_cases hlt : k < L.length
    · have hcs := Lib.hid (cntM_succ (g := g) (v := y) hlt)
      obtain ⟨lb, lo, rfl, hlc⟩ := (HL.out.below Hbel.out).get (k := k) (by rw [natInts_length]; exact hlt)
      rw [natInts_atL hlt] at hlc
      generalize hX : L[k]'hlt = x at hlc hcs
      clear hX
      obtain ⟨rb, ro, rp, rc, rfl, hrc, hrow⟩ := (HR.out.below Hbel.out).get (k := y) hy
      have hrowE : g.getD y [] = row g y := rfl
      rw [hrowE] at hrc hrow
      clear hrowE
      generalize hrl : (row g y).length = rl at hrc hrow
      clear hrl
      have HROW := Lib.hid hrow
      have e0 : (0 : Int) ≤ (y : Int) := by omega
      have e1 : (y : Int) < (g.length : Int) := by omega
      have e2 : (0 : Int) ≤ (k : Int) := by omega
      have e3 : (k : Int) < (L.length : Int) := by omega
      generalize hq : cntM g y L k = q at hcl hcs
      have HQ := Lib.hid hq
      clear hrow hq
      by_cases hin : (x : Int) ∈ row g y
      · have hd := dec_true hin
        have hcs2 := Lib.hid (hcs.out.trans (if_pos hin))
        clear hin
        go_upto_region 5 with fail
        go_cut [24] (fun s24 wx => s24 = .bool true ∧ Below wr.heap.size wr wx)
        case first =>
          go_region_held3 (fun w' => w'.cell? ⟨w.heap.size, 0, none⟩ = some (.slice (some ⟨rb, ro, none⟩) g.length c) ∧ w'.cell? ⟨rb, ro + y, none⟩ = some (.slice rp rl rc) ∧ w'.cell? ⟨lb, lo + k, none⟩ = some (.int .i64 x))
            (first | exact ⟨hc, hrc, hlc⟩ | exact ⟨BWA.at' hc, BWA.at' hrc, BWA.at' hlc⟩ | go_keep)
            (first | (go_at_call 174; refine (l1Has_any _ (row g y) _ _ (HROW.out.below (below_dN (Below.refl _ _) 1))).mono ?_; rintro e w4 ⟨he4, hw4⟩; rw [hd] at he4; subst he4; have BWA : Below wr.heap.size wr w4 := hw4 ▸ below_dN (Below.refl _ _) 1; clear hw4))
          all_goals go_wp2
          all_goals go_meet
          all_goals exact ⟨rfl, BWA⟩
        case rest =>
          obtain ⟨rfl, hb9⟩ := hcut
          go_wp2
          go_roundw
          case rel => exact ⟨k + 1, by omega, by go_num, by rw [hcs2.out]; go_num, Hbel.out.trans (hb9.mono Hbel.out.size), Hbx.out.keep hb9⟩
          case measure => simp [intOf]; omega
      · have hd := dec_false hin
        have hcs2 := Lib.hid (hcs.out.trans (if_neg hin))
        clear hin
        go_upto_region 5 with fail
        go_cut [24] (fun s24 wx => s24 = .bool false ∧ Below wr.heap.size wr wx)
        case first =>
          go_region_held3 (fun w' => w'.cell? ⟨w.heap.size, 0, none⟩ = some (.slice (some ⟨rb, ro, none⟩) g.length c) ∧ w'.cell? ⟨rb, ro + y, none⟩ = some (.slice rp rl rc) ∧ w'.cell? ⟨lb, lo + k, none⟩ = some (.int .i64 x))
            (first | exact ⟨hc, hrc, hlc⟩ | exact ⟨BWA.at' hc, BWA.at' hrc, BWA.at' hlc⟩ | go_keep)
            (first | (go_at_call 174; refine (l1Has_any _ (row g y) _ _ (HROW.out.below (below_dN (Below.refl _ _) 1))).mono ?_; rintro e w4 ⟨he4, hw4⟩; rw [hd] at he4; subst he4; have BWA : Below wr.heap.size wr w4 := hw4 ▸ below_dN (Below.refl _ _) 1; clear hw4))
          all_goals go_wp2
          all_goals go_meet
          all_goals exact ⟨rfl, BWA⟩
        case rest =>
          obtain ⟨rfl, hb9⟩ := hcut
          go_wp2
          go_roundw
          case rel => exact ⟨k + 1, by omega, by go_num, by rw [hcs2.out], Hbel.out.trans (hb9.mono Hbel.out.size), Hbx.out.keep hb9⟩
          case measure => simp [intOf]; omega
    · obtain rfl : k = L.length := by omega
      generalize hq : cntM g y L L.length = q at hcl HSP
      clear hq
      by_cases hsp : SplN g y s
      · have hh := HSP.out.1 hsp
        have HD := Lib.hid (dec_true hsp)
        have i1 : (0 : Int) < (q : Int) := by omega
        have i2 : (q : Int) < (L.length : Int) := by omega
        clear hsp hh
        go_wp2
        go_ret
        exact ⟨by rw [HD.out]; first | rfl | exact ret_bool (by simp; omega), Hbel.out⟩
      · have HD := Lib.hid (dec_false hsp)
        have hh : q = 0 ∨ q = L.length := by
          have := mt HSP.out.2 hsp
          omega
        clear hsp
        rcases hh with rfl | rfl
        · go_wp2
          go_ret
          exact ⟨by rw [HD.out]; first | rfl | exact ret_bool (by simp), Hbel.out⟩
        · by_cases h0 : 0 < L.length
          · have i1 : (0 : Int) < (L.length : Int) := by omega
            go_wp2
            go_ret
            exact ⟨by rw [HD.out]; first | rfl | exact ret_bool (by simp), Hbel.out⟩
          · have i1 : ¬ (0 : Int) < (L.length : Int) := by omega
            go_wp2
            go_ret
            exact ⟨by rw [HD.out]; first | rfl | exact ret_bool (by simp; omega), Hbel.out⟩

set_option maxRecDepth 100000 in
set_option maxHeartbeats 2000000 in
theorem l17Splitter_any (v iv lv : Value) (g : List (List Int)) (hok : GOk g) (s : Nat) (hs : s < 2 ^ g.length) (w : World) (hg : Gr w v g) (hi : Nums w 2 .i64 iv (natInts (List.range g.length))) (hl : Nums w 2 .i64 lv (natInts (bitsOf s))) :
    Calls Tryd.prog 105 #[v, iv, lv] w fun e w' => (∃ z : Int, e = .returned (.int .i64 z) ∧ ((z = -1 ∧ ModN g s) ∨ (0 ≤ z ∧ z < 100 ∧ ¬ ModN g s))) ∧ Below w.heap.size w w' := by
  have hg0 := hg
  obtain ⟨u, rfl, hr⟩ := hg
  obtain ⟨p, c, rfl, _⟩ := hr.shape
  obtain ⟨ip, ic, rfl, _⟩ := id hi.shape
  obtain ⟨lp, lc, rfl, _⟩ := id hl.shape
  have h16 := hok.le
  obtain ⟨_, hs16⟩ := cand_bits h16 hs
  have HOK := Lib.hid hok
  have HS := Lib.hid hs
  have HG := Lib.hid hg0
  have HI := Lib.hid hi
  have HL := Lib.hid hl
  have hbA := Lib.hid (below_alloc w (.cells #[.slice p g.length c] 29))
  have BX := Lib.hid (Box.new w (.slice p g.length c) 29)
  clear hr hg0 hi hl hs hok
  simp only [natInts_length, List.length_range] at *
  go_enter Tryd.func105, Tryd.ntmps105
  go_wp2
  go_loopw [7] (fun i wr => ∃ k, k ≤ g.length ∧ i = .int .i64 k ∧ (∀ v, v < k → ¬ (s.testBit v = false ∧ SplN g v s)) ∧ Below w.heap.size w wr ∧ Box wr w.heap.size 29 (.slice p g.length c)) (fun i _ => g.length - (intOf i).toNat)
  case atStart => exact ⟨0, Nat.zero_le _, rfl, fun v h => by omega, hbA.out, BX.out⟩
  case round =>
    obtain ⟨k, hk, rfl, hno, hbel, hbx⟩ := hrel
    have hc := hbx.cell
    have HNO := Lib.hid hno
    have Hbel := Lib.hid hbel
    have Hbx := Lib.hid hbx
    clear hno hbel hbx
    by_cases hlt : k < g.length
    · obtain ⟨ib, io, rfl, hic⟩ := (HI.out.below Hbel.out).get (k := k) (by rw [natInts_length, List.length_range]; exact hlt)
      rw [natInts_atL (by rw [List.length_range]; exact hlt), List.getElem_range] at hic
      have e2 : (0 : Int) ≤ (k : Int) := by omega
      have e3 : (k : Int) < (g.length : Int) := by omega
      have HLr := Lib.hid (HL.out.below Hbel.out)
      have HGr := Lib.hid (HG.out.below Hbel.out)
      by_cases hin : s.testBit k = true
      · have hd := dec_true (show (k : Int) ∈ natInts (bitsOf s) from mem_natInts.2 ⟨k, (mem_bitsOf' (by omega)).2 hin, rfl⟩)
        have HIN := Lib.hid hin
        clear hin
        go_upto_region 4 with fail
        go_cut [29] (fun s29 wx => s29 = .bool false ∧ Below wr.heap.size wr wx)
        case first =>
          refine wp_region_held_drew (S := fun w' => w'.cell? ⟨w.heap.size, 0, none⟩ = some (.slice p g.length c) ∧ w'.cell? ⟨ib, io + k, none⟩ = some (.int .i64 k)) (by kernel_rfl) ?_ (fun hHeld => ?_)
          · exact ⟨hc, hic⟩
          refine wpAnyH_take (i := 0) (v := .slice lp (bitsOf s).length lc) rfl (by kernel_rfl) (by kernel_rfl) (by kernel_rfl) (fun _ _ _ h => h) (Or.inl ⟨by rfl, ?_⟩) (by assumption) ?_
          · intro wz hSw; (try dsimp only at hSw); go_simp; try rfl
          try simp only [Act.put, List.getElem_toArray, List.getElem_cons_succ, List.getElem_cons_zero, List.setIfInBounds_toArray, List.set_cons_zero, List.set_cons_succ]
          refine wpAnyH_take (i := 1) (v := .slice (some ⟨ib, io, none⟩) g.length ic) rfl (by kernel_rfl) (by kernel_rfl) (by kernel_rfl) (fun _ _ _ h => h) (Or.inl ⟨by rfl, ?_⟩) (by assumption) ?_
          · intro wz hSw; (try dsimp only at hSw); go_simp; try rfl
          try simp only [Act.put, List.getElem_toArray, List.getElem_cons_succ, List.getElem_cons_zero, List.setIfInBounds_toArray, List.set_cons_zero, List.set_cons_succ]
          refine wpAnyH_take (i := 2) (v := .int .i64 k) rfl (by kernel_rfl) (by kernel_rfl) (by kernel_rfl) (fun _ _ _ h => h) (Or.inl ⟨by rfl, ?_⟩) (by assumption) ?_
          · intro wz hSw; (try dsimp only at hSw); go_simp; try rfl
          try simp only [Act.put, List.getElem_toArray, List.getElem_cons_succ, List.getElem_cons_zero, List.setIfInBounds_toArray, List.set_cons_zero, List.set_cons_succ]
          refine wpAnyH_take (i := 3) (v := .pointer (some ⟨ib, io + k, none⟩)) rfl (by kernel_rfl) (by kernel_rfl) (by kernel_rfl) (fun _ _ _ h => h) (Or.inl ⟨by rfl, ?_⟩) (by assumption) ?_
          · intro wz hSw; (try dsimp only at hSw); go_simp; try rfl
          try simp only [Act.put, List.getElem_toArray, List.getElem_cons_succ, List.getElem_cons_zero, List.setIfInBounds_toArray, List.set_cons_zero, List.set_cons_succ]
          refine wpAnyH_take (i := 4) (v := .int .i64 k) rfl (by kernel_rfl) (by kernel_rfl) (by kernel_rfl) (fun _ _ _ h => h) (Or.inl ⟨by rfl, ?_⟩) (by assumption) ?_
          · intro wz hSw; (try dsimp only at hSw); go_simp; try rfl
          try simp only [Act.put, List.getElem_toArray, List.getElem_cons_succ, List.getElem_cons_zero, List.setIfInBounds_toArray, List.set_cons_zero, List.set_cons_succ]
          refine wpAnyH_ready (rs := [5]) (by kernel_rfl) (by simp) ?_
          refine AllReadyH.cons rfl (fun K hK => ?_) AllReadyH.nil
          go_simp
          go_at_call 174
          refine (l1Has_any _ (natInts (bitsOf s)) _ _ (HLr.out.below (below_dN (Below.refl _ _) 1))).mono ?_
          rintro e w4 ⟨he4, hw4⟩
          rw [hd] at he4
          subst he4
          have BWA : Below wr.heap.size wr w4 := hw4 ▸ below_dN (Below.refl _ _) 1
          clear hw4
          refine hK.out _ _ ?_ (fun hHeld => ?_)
          · exact ⟨BWA.at' hc, BWA.at' hic⟩
          clear hK K
          try simp only [Act.put, List.getElem_toArray, List.getElem_cons_succ, List.getElem_cons_zero, List.setIfInBounds_toArray, List.set_cons_zero, List.set_cons_succ]
          refine wpAnyH_take (i := 6) (v := .bool false) rfl (by kernel_rfl) (by kernel_rfl) (by kernel_rfl) (fun _ _ _ h => h) (Or.inl ⟨by rfl, ?_⟩) (by assumption) ?_
          · intro wz hSw; (try dsimp only at hSw); go_simp; try rfl
          try simp only [Act.put, List.getElem_toArray, List.getElem_cons_succ, List.getElem_cons_zero, List.setIfInBounds_toArray, List.set_cons_zero, List.set_cons_succ]
          refine wpAnyH_take (i := 7) (v := .bool false) rfl (by kernel_rfl) (by kernel_rfl) (by kernel_rfl) (fun _ _ _ h => h) (Or.inl ⟨by rfl, ?_⟩) (by assumption) ?_
          · intro wz hSw; (try dsimp only at hSw); go_simp; try rfl
          try simp only [Act.put, List.getElem_toArray, List.getElem_cons_succ, List.getElem_cons_zero, List.setIfInBounds_toArray, List.set_cons_zero, List.set_cons_succ]
          refine wpAnyH_take (i := 8) (v := undef) rfl (by kernel_rfl) (by kernel_rfl) (by kernel_rfl) (fun _ _ _ h => h) (Or.inr ⟨by kernel_rfl, rfl⟩) (by assumption) ?_
          try simp only [Act.put, List.getElem_toArray, List.getElem_cons_succ, List.getElem_cons_zero, List.setIfInBounds_toArray, List.set_cons_zero, List.set_cons_succ]
          refine wpAnyH_take (i := 9) (v := undef) rfl (by kernel_rfl) (by kernel_rfl) (by kernel_rfl) (fun _ _ _ h => h) (Or.inr ⟨by kernel_rfl, rfl⟩) (by assumption) ?_
          try simp only [Act.put, List.getElem_toArray, List.getElem_cons_succ, List.getElem_cons_zero, List.setIfInBounds_toArray, List.set_cons_zero, List.set_cons_succ]
          refine wpAnyH_take (i := 10) (v := undef) rfl (by kernel_rfl) (by kernel_rfl) (by kernel_rfl) (fun _ _ _ h => h) (Or.inr ⟨by kernel_rfl, rfl⟩) (by assumption) ?_
          try simp only [Act.put, List.getElem_toArray, List.getElem_cons_succ, List.getElem_cons_zero, List.setIfInBounds_toArray, List.set_cons_zero, List.set_cons_succ]
          refine wpAnyH_take (i := 11) (v := undef) rfl (by kernel_rfl) (by kernel_rfl) (by kernel_rfl) (fun _ _ _ h => h) (Or.inr ⟨by kernel_rfl, rfl⟩) (by assumption) ?_
          try simp only [Act.put, List.getElem_toArray, List.getElem_cons_succ, List.getElem_cons_zero, List.setIfInBounds_toArray, List.set_cons_zero, List.set_cons_succ]
          refine wpAnyH_take (i := 12) (v := undef) rfl (by kernel_rfl) (by kernel_rfl) (by kernel_rfl) (fun _ _ _ h => h) (Or.inr ⟨by kernel_rfl, rfl⟩) (by assumption) ?_
          try simp only [Act.put, List.getElem_toArray, List.getElem_cons_succ, List.getElem_cons_zero, List.setIfInBounds_toArray, List.set_cons_zero, List.set_cons_succ]
          refine wpAnyH_take (i := 13) (v := undef) rfl (by kernel_rfl) (by kernel_rfl) (by kernel_rfl) (fun _ _ _ h => h) (Or.inr ⟨by kernel_rfl, rfl⟩) (by assumption) ?_
          try simp only [Act.put, List.getElem_toArray, List.getElem_cons_succ, List.getElem_cons_zero, List.setIfInBounds_toArray, List.set_cons_zero, List.set_cons_succ]
          refine wpAnyH_take (i := 14) (v := undef) rfl (by kernel_rfl) (by kernel_rfl) (by kernel_rfl) (fun _ _ _ h => h) (Or.inr ⟨by kernel_rfl, rfl⟩) (by assumption) ?_
          try simp only [Act.put, List.getElem_toArray, List.getElem_cons_succ, List.getElem_cons_zero, List.setIfInBounds_toArray, List.set_cons_zero, List.set_cons_succ]
          refine wpAnyH_take (i := 15) (v := .bool false) rfl (by kernel_rfl) (by kernel_rfl) (by kernel_rfl) (fun _ _ _ h => h) (Or.inl ⟨by rfl, ?_⟩) (by assumption) ?_
          · intro wz hSw; (try dsimp only at hSw); go_simp; try rfl
          try simp only [Act.put, List.getElem_toArray, List.getElem_cons_succ, List.getElem_cons_zero, List.setIfInBounds_toArray, List.set_cons_zero, List.set_cons_succ]
          refine wpAnyH_done (by kernel_rfl) ?_ _
          go_wp2
          go_meet
          exact ⟨rfl, BWA⟩
        case rest =>
          obtain ⟨rfl, hb9⟩ := hcut
          have hic9 := hb9.at' hic
          go_wp2
          go_roundw
          case rel => exact ⟨k + 1, by omega, by go_num, fun v hv => by
            by_cases e : v < k
            · exact HNO.out v e
            · obtain rfl : v = k := by omega
              rintro ⟨h1, _⟩
              rw [HIN.out] at h1
              exact absurd h1 (by simp), Hbel.out.trans (hb9.mono Hbel.out.size), Hbx.out.keep hb9⟩
          case measure => simp [intOf]; omega
      · have hd := dec_false (show ¬ (k : Int) ∈ natInts (bitsOf s) from fun h => by
          obtain ⟨j, h1, h2⟩ := mem_natInts.1 h
          obtain rfl : j = k := by omega
          exact hin ((mem_bitsOf' (by omega)).1 h1))
        have HIN : Hid (s.testBit k = false) := Lib.hid (by simpa using hin)
        clear hin
        by_cases hsp : SplN g k s
        · have hd2 := Lib.hid (dec_true hsp)
          have HSP := Lib.hid hsp
          clear hsp
          go_upto_region 4 with fail
          go_cut [29] (fun s29 wx => s29 = .bool true ∧ Below wr.heap.size wr wx)
          case first =>
            go_region_held3 (fun w' => w'.cell? ⟨w.heap.size, 0, none⟩ = some (.slice p g.length c) ∧ w'.cell? ⟨ib, io + k, none⟩ = some (.int .i64 k))
              (first | exact ⟨hc, hic⟩ | exact ⟨BWB.at' hc, BWB.at' hic⟩ | exact ⟨BWA.at' hc, BWA.at' hic⟩ | go_keep)
              (first
                | (go_at_call 178; refine (l17Splits_any _ _ g HOK.out s k HS.out hlt _ (HGr.out.below BWA) (HLr.out.below BWA)).mono ?_; rintro e w5 ⟨he5, hb5⟩; rw [hd2.out] at he5; subst he5; have BWB : Below wr.heap.size wr w5 := BWA.trans (hb5.mono BWA.size); clear hb5)
                | (go_at_call 174; refine (l1Has_any _ (natInts (bitsOf s)) _ _ (HLr.out.below (below_dN (Below.refl _ _) 1))).mono ?_; rintro e w4 ⟨he4, hw4⟩; rw [hd] at he4; subst he4; have BWA : Below wr.heap.size wr w4 := hw4 ▸ below_dN (Below.refl _ _) 1; clear hw4))
            all_goals go_wp2
            all_goals go_meet
            all_goals exact ⟨rfl, BWB⟩
          case rest =>
            obtain ⟨rfl, hb9⟩ := hcut
            have hic9 := hb9.at' hic
            go_wp2
            go_ret
            exact ⟨⟨k, rfl, .inr ⟨by omega, by omega, fun hm => mod_iff.1 hm k hlt ⟨HIN.out, HSP.out⟩⟩⟩, Hbel.out.trans (hb9.mono Hbel.out.size)⟩
        · have hd2 := Lib.hid (dec_false hsp)
          have HSP := Lib.hid hsp
          clear hsp
          go_upto_region 4 with fail
          go_cut [29] (fun s29 wx => s29 = .bool false ∧ Below wr.heap.size wr wx)
          case first =>
            go_region_held3 (fun w' => w'.cell? ⟨w.heap.size, 0, none⟩ = some (.slice p g.length c) ∧ w'.cell? ⟨ib, io + k, none⟩ = some (.int .i64 k))
              (first | exact ⟨hc, hic⟩ | exact ⟨BWB.at' hc, BWB.at' hic⟩ | exact ⟨BWA.at' hc, BWA.at' hic⟩ | go_keep)
              (first
                | (go_at_call 178; refine (l17Splits_any _ _ g HOK.out s k HS.out hlt _ (HGr.out.below BWA) (HLr.out.below BWA)).mono ?_; rintro e w5 ⟨he5, hb5⟩; rw [hd2.out] at he5; subst he5; have BWB : Below wr.heap.size wr w5 := BWA.trans (hb5.mono BWA.size); clear hb5)
                | (go_at_call 174; refine (l1Has_any _ (natInts (bitsOf s)) _ _ (HLr.out.below (below_dN (Below.refl _ _) 1))).mono ?_; rintro e w4 ⟨he4, hw4⟩; rw [hd] at he4; subst he4; have BWA : Below wr.heap.size wr w4 := hw4 ▸ below_dN (Below.refl _ _) 1; clear hw4))
            all_goals go_wp2
            all_goals go_meet
            all_goals exact ⟨rfl, BWB⟩
          case rest =>
            obtain ⟨rfl, hb9⟩ := hcut
            have hic9 := hb9.at' hic
            go_wp2
            go_roundw
            case rel => exact ⟨k + 1, by omega, by go_num, fun v hv => by
              by_cases e : v < k
              · exact HNO.out v e
              · obtain rfl : v = k := by omega
                exact fun h => HSP.out h.2, Hbel.out.trans (hb9.mono Hbel.out.size), Hbx.out.keep hb9⟩
            case measure => simp [intOf]; omega
    · obtain rfl : k = g.length := by omega
      go_wp2
      go_ret
      exact ⟨⟨-1, rfl, .inl ⟨rfl, mod_iff.2 HNO.out⟩⟩, Hbel.out⟩

end Go.Proofs.YtmakhapdlkbbnaaDoor
