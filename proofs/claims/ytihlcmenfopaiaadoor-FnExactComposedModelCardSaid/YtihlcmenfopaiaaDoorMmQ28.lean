/- Walks: the reference's CoverOf (printed in part by wip/mkCvS.py). -/
import Derived.Test.YtihlcmenfopaiaaDoorMmQ27
import Derived.Test.YtihlcmenfopaiaaDoorMmQ21
import Derived.Test.YtihlcmenfopaiaaDoorMmQ20
namespace Go.Proofs.YtihlcmenfopaiaaDoor
open Go.RowKit

theorem natInts_snocS (l : List Nat) (x : Nat) : natInts (l ++ [x]) = natInts l ++ [(x : Int)] := by simp [natInts]
set_option maxHeartbeats 400000 in
theorem l1Flag_anyC (b : Bool) (w : World) : Calls Tryd.prog 173 #[.bool b] w fun e w' => e = .returned (.int .i64 ((if b then 1 else 0 : Nat) : Int)) ∧ w = w' := by
  cases b
  · go_enter Tryd.func173, Tryd.ntmps173
    go_wp2
    go_ret
    exact ⟨rfl, rfl⟩
  · go_enter Tryd.func173, Tryd.ntmps173
    go_wp2
    go_ret
    exact ⟨rfl, rfl⟩

set_option maxRecDepth 100000 in
set_option maxHeartbeats 2000000 in
theorem l8Near_any (v lv : Value) (y : Int) (g : List (List Int)) (b : List Nat) (x : Nat) (hy : y = x) (hb16 : b.length ≤ 16) (hbl : ∀ t ∈ b, t < g.length) (w : World) (hg : Gr w v g) (hn : Nums w 2 .i64 lv (natInts b)) :
    Calls Tryd.prog 154 #[v, lv, .int .i64 y] w fun e w' => ∃ z : Int, e = .returned (.int .i64 z) ∧ (0 < z ↔ ∃ t ∈ b, (x : Int) ∈ row g t) ∧ Below w.heap.size w w' := by
  subst hy
  have hg0 := hg
  obtain ⟨gu, rfl, hr⟩ := hg
  obtain ⟨p, c, rfl, _⟩ := hr.shape
  obtain ⟨lp, lc, rfl, _⟩ := id hn.shape
  obtain ⟨W0, hW0⟩ : ∃ W0, W0 = w.alloc (.cells #[.slice p g.length c] 29) := ⟨_, rfl⟩
  have hb0 : Below w.heap.size w W0 := by rw [hW0]; exact below_alloc _ _
  have HB0 := Lib.hid hb0
  have HBG : Hid (Box W0 w.heap.size 29 (.slice p g.length c)) := Lib.hid (by rw [hW0]; exact Box.new _ _ _)
  have HG := Lib.hid (hg0.below hb0)
  have HN := Lib.hid (hn.below hb0)
  have SZ0 := Lib.hid (show W0.heap.size = w.heap.size + 1 by rw [hW0, size_alloc])
  have HBL := Lib.hid hbl
  have hnl := natInts_length b
  rw [hnl]
  rw [hnl] at HN
  clear hg0 hb0 hr hn hbl hnl
  go_enter Tryd.func154, Tryd.ntmps154
  go_upto_region 1 with fail
  rw [← hW0]
  clear hW0
  go_wp2_with fail
  go_loopw [7, 8] (fun mv kv wr => ∃ (k m : Nat), k ≤ b.length ∧ kv = .int .i64 k ∧ mv = .int .i64 m ∧ m ≤ k ∧ Hid (0 < m ↔ ∃ t ∈ b.take k, (x : Int) ∈ row g t) ∧ Below W0.heap.size W0 wr) (fun _ kv _ => b.length - (intOf kv).toNat)
  case atStart => exact ⟨0, 0, Nat.zero_le _, rfl, rfl, Nat.le_refl _, Lib.hid (by simp), Below.refl _ _⟩
  case round =>
    obtain ⟨k, m, hk, rfl, rfl, hmk, HM, hb⟩ := hrel
    have HB := Lib.hid hb
    by_cases hlt : k < b.length
    · have hcg := hb.at (by have := SZ0.out; omega) HBG.out.cell
      obtain ⟨qb, qo, rfl, hq⟩ := (HN.out.below hb).get (k := k) (by rw [natInts_length]; exact hlt)
      obtain ⟨t, ht⟩ : ∃ t, t = b[k] := ⟨_, rfl⟩
      rw [natInts_atC hlt, ← ht] at hq
      have htg : t < g.length := by rw [ht]; exact HBL.out _ (List.getElem_mem hlt)
      obtain ⟨fl, hfl⟩ : ∃ fl : Nat, fl = if dec ((x : Int) ∈ row g t) then 1 else 0 := ⟨_, rfl⟩
      have hf1 : fl ≤ 1 := by rw [hfl]; split <;> omega
      have FLAG : Hid (∀ w, Calls Tryd.prog 173 #[.bool (dec ((x : Int) ∈ row g t))] w fun e w' => e = .returned (.int .i64 (fl : Int)) ∧ w = w') := Lib.hid (fun w => by rw [hfl]; exact l1Flag_anyC _ w)
      have HM2 : Hid (0 < m + fl ↔ ∃ t ∈ b.take (k + 1), (x : Int) ∈ row g t) := Lib.hid (by
        rw [take_snoc' b k hlt, ← ht]
        have h1 : 0 < fl ↔ (x : Int) ∈ row g t := by
          rw [hfl]
          by_cases e : (x : Int) ∈ row g t
          · simp [dec_true e, e]
          · simp [dec_false e, e]
        constructor
        · intro h
          by_cases e : 0 < m
          · obtain ⟨s, h2, h3⟩ := HM.out.1 e
            exact ⟨s, List.mem_append_left _ h2, h3⟩
          · exact ⟨t, by simp, h1.1 (by omega)⟩
        · rintro ⟨s, h2, h3⟩
          rcases List.mem_append.1 h2 with e | e
          · have := HM.out.2 ⟨s, e, h3⟩
            omega
          · obtain rfl : s = t := by simpa using e
            have := h1.2 h3
            omega)
      have hwr : IntKind.i64.wrap ((m : Int) + (fl : Int)) = ((m + fl : Nat) : Int) := by rw [IntKind.wrap_i64]; omega
      have HGr := Lib.hid (HG.out.below hb)
      clear ht hfl hb
      go_upto_region 5 with fail
      go_region_held3 (fun w' => w'.cell? ⟨w.heap.size, 0, none⟩ = some (.slice p g.length c) ∧ w'.cell? ⟨qb, qo + k, none⟩ = some (.int .i64 t))
        (first | exact ⟨hcg, hq⟩ | exact ⟨BWA.at' hcg, BWA.at' hq⟩ | go_keep)
        (first
          | (go_at_call 174; refine (l1Edge_any _ g _ _ t x rfl rfl htg _ (HGr.out.below (below_dN (Below.refl _ _) 1))).mono ?_; rintro e w4 ⟨rfl, hb4⟩; have BWA : Below wr.heap.size wr w4 := (below_dN (Below.refl _ _) 1).trans hb4; clear hb4)
          | (go_at_call 173; refine (FLAG.out _).mono ?_; rintro e w5 ⟨rfl, rfl⟩))
      all_goals
        clear hcg hq
        go_wp2
        go_roundw
        case rel => exact ⟨k + 1, m + fl, by omega, by go_num, rfl, by omega, HM2, HB.out.trans (BWA.mono HB.out.size)⟩
        case measure => simp [intOf]; omega
    · obtain rfl : k = b.length := by omega
      have HE : Hid (0 < m ↔ ∃ t ∈ b, (x : Int) ∈ row g t) := Lib.hid (by have := HM.out; rwa [List.take_length] at this)
      clear hb
      go_wp2_with fail
      go_ret
      exact ⟨m, rfl, ⟨fun h => HE.out.1 (by omega), fun h => by have := HE.out.2 h; omega⟩, HB0.out.trans (HB.out.mono HB0.out.size)⟩

theorem touch_nat {g : List (List Int)} {a b : List Nat} : TouchP g (natInts a) (natInts b) ↔ ∃ x ∈ a, x ∈ b ∨ ∃ t ∈ b, (x : Int) ∈ row g t := by
  unfold TouchP
  constructor
  · rintro ⟨x, hx, h⟩
    obtain ⟨i, hi, rfl⟩ := mem_natInts.1 hx
    refine ⟨i, hi, ?_⟩
    rcases h with h | ⟨y, hy, h⟩
    · obtain ⟨j, hj, e⟩ := mem_natInts.1 h
      obtain rfl : j = i := by omega
      exact .inl hj
    · obtain ⟨j, hj, rfl⟩ := mem_natInts.1 hy
      exact .inr ⟨j, hj, by simpa using h⟩
  · rintro ⟨i, hi, h⟩
    refine ⟨(i : Int), mem_natInts.2 ⟨i, hi, rfl⟩, ?_⟩
    rcases h with h | ⟨j, hj, h⟩
    · exact .inl (mem_natInts.2 ⟨i, h, rfl⟩)
    · exact .inr ⟨(j : Int), mem_natInts.2 ⟨j, hj, rfl⟩, by simpa using h⟩

set_option maxRecDepth 100000 in
set_option maxHeartbeats 4000000 in
theorem l11Touch_any (v av bv : Value) (g : List (List Int)) (a b : List Nat) (hbn16 : b.length ≤ 16) (hbl : ∀ t ∈ b, t < g.length) (w : World) (hg : Gr w v g) (hna : Nums w 2 .i64 av (natInts a)) (hnb : Nums w 2 .i64 bv (natInts b)) :
    Calls Tryd.prog 103 #[v, av, bv] w fun e w' => e = .returned (.bool (dec (TouchP g (natInts a) (natInts b)))) ∧ Below w.heap.size w w' := by
  have hg0 := hg
  obtain ⟨gu, rfl, hr⟩ := hg
  obtain ⟨p, c, rfl, _⟩ := hr.shape
  obtain ⟨ap, ac, rfl, _⟩ := id hna.shape
  obtain ⟨bp, bc, rfl, _⟩ := id hnb.shape
  obtain ⟨W0, hW0⟩ : ∃ W0, W0 = w.alloc (.cells #[.slice p g.length c] 29) := ⟨_, rfl⟩
  have hb0 : Below w.heap.size w W0 := by rw [hW0]; exact below_alloc _ _
  have HB0 := Lib.hid hb0
  have HBG : Hid (Box W0 w.heap.size 29 (.slice p g.length c)) := Lib.hid (by rw [hW0]; exact Box.new _ _ _)
  have HG := Lib.hid (hg0.below hb0)
  have HAN := Lib.hid (hna.below hb0)
  have HBN := Lib.hid (hnb.below hb0)
  have SZ0 := Lib.hid (show W0.heap.size = w.heap.size + 1 by rw [hW0, size_alloc])
  have HBL := Lib.hid hbl
  have hnl := natInts_length a
  have hnl2 := natInts_length b
  have hal : a.length ≤ 1000000000 := by
    obtain ⟨_, _, _, _, _, h, _⟩ := id hna.shape
    rw [hnl] at h; exact h
  rw [hnl, hnl2]
  rw [hnl] at HAN
  rw [hnl2] at HBN
  clear hg0 hb0 hr hna hnb hbl hnl hnl2
  have TN : Hid (TouchP g (natInts a) (natInts b) ↔ ∃ x ∈ a, x ∈ b ∨ ∃ t ∈ b, (x : Int) ∈ row g t) := Lib.hid touch_nat
  go_enter Tryd.func103, Tryd.ntmps103
  go_upto_region 1 with fail
  rw [← hW0]
  clear hW0
  go_wp2_with fail
  go_loopw [7] (fun kv wr => ∃ i : Nat, i ≤ a.length ∧ kv = .int .i64 i ∧ Hid (∀ j (h : j < a.length), j < i → ¬ (a[j] ∈ b ∨ ∃ t ∈ b, ((a[j] : Nat) : Int) ∈ row g t)) ∧ Below W0.heap.size W0 wr) (fun kv _ => a.length - (intOf kv).toNat)
  case atStart => exact ⟨0, Nat.zero_le _, rfl, Lib.hid (fun j _ hj => absurd hj (Nat.not_lt_zero _)), Below.refl _ _⟩
  case round =>
    obtain ⟨i, hi, rfl, HNO, hb⟩ := hrel
    have HB := Lib.hid hb
    by_cases hlt : i < a.length
    · have hcg := hb.at (by have := SZ0.out; omega) HBG.out.cell
      obtain ⟨qb, qo, rfl, hq⟩ := (HAN.out.below hb).get (k := i) (by rw [natInts_length]; exact hlt)
      obtain ⟨x, hx⟩ : ∃ x, x = a[i] := ⟨_, rfl⟩
      rw [natInts_atC hlt, ← hx] at hq
      have HX := Lib.hid hx
      have HLT := Lib.hid (show x ∈ a by rw [hx]; exact List.getElem_mem hlt)
      clear hx hb
      by_cases hxb : x ∈ b
      · have hd := Lib.hid (dec_true (show (x : Int) ∈ natInts b from mem_natInts.2 ⟨x, hxb, rfl⟩))
        have HY := Lib.hid (dec_true (TN.out.2 ⟨x, HLT.out, .inl hxb⟩))
        clear hxb
        go_upto_region 4 with fail
        go_cut [29] (fun s29 wx => s29 = .bool true ∧ Below wr.heap.size wr wx)
        case first =>
          refine wp_region_held_drew (S := fun w' => w'.cell? ⟨w.heap.size, 0, none⟩ = some (.slice p g.length c) ∧ w'.cell? ⟨qb, qo + i, none⟩ = some (.int .i64 (x : Int))) (by kernel_rfl) ?_ (fun hHeld => ?_)
          · exact ⟨hcg, hq⟩
          refine wpAnyH_take (i := 0) (v := .slice bp b.length bc) rfl (by kernel_rfl) (by kernel_rfl) (by kernel_rfl) (fun _ _ _ h => h) (Or.inl ⟨by rfl, ?_⟩) (by assumption) ?_
          · intro wz hSw; (try dsimp only at hSw); go_simp; try rfl
          try simp only [Act.put, List.getElem_toArray, List.getElem_cons_succ, List.getElem_cons_zero, List.setIfInBounds_toArray, List.set_cons_zero, List.set_cons_succ]
          refine wpAnyH_take (i := 1) (v := .slice (some ⟨qb, qo, none⟩) a.length ac) rfl (by kernel_rfl) (by kernel_rfl) (by kernel_rfl) (fun _ _ _ h => h) (Or.inl ⟨by rfl, ?_⟩) (by assumption) ?_
          · intro wz hSw; (try dsimp only at hSw); go_simp; try rfl
          try simp only [Act.put, List.getElem_toArray, List.getElem_cons_succ, List.getElem_cons_zero, List.setIfInBounds_toArray, List.set_cons_zero, List.set_cons_succ]
          refine wpAnyH_take (i := 2) (v := .int .i64 i) rfl (by kernel_rfl) (by kernel_rfl) (by kernel_rfl) (fun _ _ _ h => h) (Or.inl ⟨by rfl, ?_⟩) (by assumption) ?_
          · intro wz hSw; (try dsimp only at hSw); go_simp; try rfl
          try simp only [Act.put, List.getElem_toArray, List.getElem_cons_succ, List.getElem_cons_zero, List.setIfInBounds_toArray, List.set_cons_zero, List.set_cons_succ]
          refine wpAnyH_take (i := 3) (v := .pointer (some ⟨qb, qo + i, none⟩)) rfl (by kernel_rfl) (by kernel_rfl) (by kernel_rfl) (fun _ _ _ h => h) (Or.inl ⟨by rfl, ?_⟩) (by assumption) ?_
          · intro wz hSw; (try dsimp only at hSw); go_simp; try rfl
          try simp only [Act.put, List.getElem_toArray, List.getElem_cons_succ, List.getElem_cons_zero, List.setIfInBounds_toArray, List.set_cons_zero, List.set_cons_succ]
          refine wpAnyH_take (i := 4) (v := .int .i64 (x : Int)) rfl (by kernel_rfl) (by kernel_rfl) (by kernel_rfl) (fun _ _ _ h => h) (Or.inl ⟨by rfl, ?_⟩) (by assumption) ?_
          · intro wz hSw; (try dsimp only at hSw); go_simp; try rfl
          try simp only [Act.put, List.getElem_toArray, List.getElem_cons_succ, List.getElem_cons_zero, List.setIfInBounds_toArray, List.set_cons_zero, List.set_cons_succ]
          refine wpAnyH_ready (rs := [5]) (by kernel_rfl) (by simp) ?_
          refine AllReadyH.cons rfl (fun K hK => ?_) AllReadyH.nil
          go_simp
          go_at_call 137
          refine (l1Has_any _ (natInts b) x _ (HBN.out.below (HB.out.trans (below_dN (Below.refl _ _) 1)))).mono ?_
          rintro e w4 ⟨he4, hw4⟩
          rw [hd.out] at he4
          subst he4
          subst hw4
          refine hK.out _ _ ?_ (fun hHeld => ?_)
          · exact ⟨hcg, hq⟩
          clear hK K
          try simp only [Act.put, List.getElem_toArray, List.getElem_cons_succ, List.getElem_cons_zero, List.setIfInBounds_toArray, List.set_cons_zero, List.set_cons_succ]
          refine wpAnyH_take (i := 6) (v := .bool true) rfl (by kernel_rfl) (by kernel_rfl) (by kernel_rfl) (fun _ _ _ h => h) (Or.inl ⟨by rfl, ?_⟩) (by assumption) ?_
          · intro wz hSw; (try dsimp only at hSw); go_simp; try rfl
          try simp only [Act.put, List.getElem_toArray, List.getElem_cons_succ, List.getElem_cons_zero, List.setIfInBounds_toArray, List.set_cons_zero, List.set_cons_succ]
          refine wpAnyH_take (i := 7) (v := undef) rfl (by kernel_rfl) (by kernel_rfl) (by kernel_rfl) (fun _ _ _ h => h) (Or.inr ⟨by kernel_rfl, rfl⟩) (by assumption) ?_
          try simp only [Act.put, List.getElem_toArray, List.getElem_cons_succ, List.getElem_cons_zero, List.setIfInBounds_toArray, List.set_cons_zero, List.set_cons_succ]
          refine wpAnyH_take (i := 8) (v := undef) rfl (by kernel_rfl) (by kernel_rfl) (by kernel_rfl) (fun _ _ _ h => h) (Or.inr ⟨by kernel_rfl, rfl⟩) (by assumption) ?_
          try simp only [Act.put, List.getElem_toArray, List.getElem_cons_succ, List.getElem_cons_zero, List.setIfInBounds_toArray, List.set_cons_zero, List.set_cons_succ]
          refine wpAnyH_take (i := 9) (v := undef) rfl (by kernel_rfl) (by kernel_rfl) (by kernel_rfl) (fun _ _ _ h => h) (Or.inr ⟨by kernel_rfl, rfl⟩) (by assumption) ?_
          try simp only [Act.put, List.getElem_toArray, List.getElem_cons_succ, List.getElem_cons_zero, List.setIfInBounds_toArray, List.set_cons_zero, List.set_cons_succ]
          refine wpAnyH_take (i := 10) (v := undef) rfl (by kernel_rfl) (by kernel_rfl) (by kernel_rfl) (fun _ _ _ h => h) (Or.inr ⟨by kernel_rfl, rfl⟩) (by assumption) ?_
          try simp only [Act.put, List.getElem_toArray, List.getElem_cons_succ, List.getElem_cons_zero, List.setIfInBounds_toArray, List.set_cons_zero, List.set_cons_succ]
          refine wpAnyH_take (i := 11) (v := undef) rfl (by kernel_rfl) (by kernel_rfl) (by kernel_rfl) (fun _ _ _ h => h) (Or.inr ⟨by kernel_rfl, rfl⟩) (by assumption) ?_
          try simp only [Act.put, List.getElem_toArray, List.getElem_cons_succ, List.getElem_cons_zero, List.setIfInBounds_toArray, List.set_cons_zero, List.set_cons_succ]
          refine wpAnyH_take (i := 12) (v := undef) rfl (by kernel_rfl) (by kernel_rfl) (by kernel_rfl) (fun _ _ _ h => h) (Or.inr ⟨by kernel_rfl, rfl⟩) (by assumption) ?_
          try simp only [Act.put, List.getElem_toArray, List.getElem_cons_succ, List.getElem_cons_zero, List.setIfInBounds_toArray, List.set_cons_zero, List.set_cons_succ]
          refine wpAnyH_take (i := 13) (v := undef) rfl (by kernel_rfl) (by kernel_rfl) (by kernel_rfl) (fun _ _ _ h => h) (Or.inr ⟨by kernel_rfl, rfl⟩) (by assumption) ?_
          try simp only [Act.put, List.getElem_toArray, List.getElem_cons_succ, List.getElem_cons_zero, List.setIfInBounds_toArray, List.set_cons_zero, List.set_cons_succ]
          refine wpAnyH_take (i := 14) (v := undef) rfl (by kernel_rfl) (by kernel_rfl) (by kernel_rfl) (fun _ _ _ h => h) (Or.inr ⟨by kernel_rfl, rfl⟩) (by assumption) ?_
          try simp only [Act.put, List.getElem_toArray, List.getElem_cons_succ, List.getElem_cons_zero, List.setIfInBounds_toArray, List.set_cons_zero, List.set_cons_succ]
          refine wpAnyH_take (i := 15) (v := .bool true) rfl (by kernel_rfl) (by kernel_rfl) (by kernel_rfl) (fun _ _ _ h => h) (Or.inl ⟨by rfl, ?_⟩) (by assumption) ?_
          · intro wz hSw; (try dsimp only at hSw); go_simp; try rfl
          try simp only [Act.put, List.getElem_toArray, List.getElem_cons_succ, List.getElem_cons_zero, List.setIfInBounds_toArray, List.set_cons_zero, List.set_cons_succ]
          refine wpAnyH_done (by kernel_rfl) ?_ _
          go_wp2
          go_meet
          exact ⟨rfl, by first | exact below_dN (Below.refl _ _) _ | exact below_dN (below_dN (Below.refl _ _) 1) _⟩
        case rest =>
        obtain ⟨rfl, hbc⟩ := hcut
        clear hcg hq
        go_wp2_with fail
        go_ret
        exact ⟨by rw [HY.out]; rfl, HB0.out.trans ((HB.out.trans (hbc.mono HB.out.size)).mono HB0.out.size)⟩
      · have hd := Lib.hid (dec_false (show ¬ (x : Int) ∈ natInts b from fun h => by
          obtain ⟨j, hj, e⟩ := mem_natInts.1 h
          exact hxb (show x ∈ b by rw [show x = j by omega]; exact hj)))
        have HXB := Lib.hid hxb
        clear hxb
        go_upto_region 4 with fail
        go_cut [29] (fun s29 wx => ∃ z : Int, s29 = .bool (decide ((0 : Int) < z)) ∧ Hid (0 < z ↔ ∃ t ∈ b, (x : Int) ∈ row g t) ∧ Below wr.heap.size wr wx)
        case first =>
          refine wp_region_held_drew (S := fun w' => w'.cell? ⟨w.heap.size, 0, none⟩ = some (.slice p g.length c) ∧ w'.cell? ⟨qb, qo + i, none⟩ = some (.int .i64 (x : Int))) (by kernel_rfl) ?_ (fun hHeld => ?_)
          · exact ⟨hcg, hq⟩
          refine wpAnyH_take (i := 0) (v := .slice bp b.length bc) rfl (by kernel_rfl) (by kernel_rfl) (by kernel_rfl) (fun _ _ _ h => h) (Or.inl ⟨by rfl, ?_⟩) (by assumption) ?_
          · intro wz hSw; (try dsimp only at hSw); go_simp; try rfl
          try simp only [Act.put, List.getElem_toArray, List.getElem_cons_succ, List.getElem_cons_zero, List.setIfInBounds_toArray, List.set_cons_zero, List.set_cons_succ]
          refine wpAnyH_take (i := 1) (v := .slice (some ⟨qb, qo, none⟩) a.length ac) rfl (by kernel_rfl) (by kernel_rfl) (by kernel_rfl) (fun _ _ _ h => h) (Or.inl ⟨by rfl, ?_⟩) (by assumption) ?_
          · intro wz hSw; (try dsimp only at hSw); go_simp; try rfl
          try simp only [Act.put, List.getElem_toArray, List.getElem_cons_succ, List.getElem_cons_zero, List.setIfInBounds_toArray, List.set_cons_zero, List.set_cons_succ]
          refine wpAnyH_take (i := 2) (v := .int .i64 i) rfl (by kernel_rfl) (by kernel_rfl) (by kernel_rfl) (fun _ _ _ h => h) (Or.inl ⟨by rfl, ?_⟩) (by assumption) ?_
          · intro wz hSw; (try dsimp only at hSw); go_simp; try rfl
          try simp only [Act.put, List.getElem_toArray, List.getElem_cons_succ, List.getElem_cons_zero, List.setIfInBounds_toArray, List.set_cons_zero, List.set_cons_succ]
          refine wpAnyH_take (i := 3) (v := .pointer (some ⟨qb, qo + i, none⟩)) rfl (by kernel_rfl) (by kernel_rfl) (by kernel_rfl) (fun _ _ _ h => h) (Or.inl ⟨by rfl, ?_⟩) (by assumption) ?_
          · intro wz hSw; (try dsimp only at hSw); go_simp; try rfl
          try simp only [Act.put, List.getElem_toArray, List.getElem_cons_succ, List.getElem_cons_zero, List.setIfInBounds_toArray, List.set_cons_zero, List.set_cons_succ]
          refine wpAnyH_take (i := 4) (v := .int .i64 (x : Int)) rfl (by kernel_rfl) (by kernel_rfl) (by kernel_rfl) (fun _ _ _ h => h) (Or.inl ⟨by rfl, ?_⟩) (by assumption) ?_
          · intro wz hSw; (try dsimp only at hSw); go_simp; try rfl
          try simp only [Act.put, List.getElem_toArray, List.getElem_cons_succ, List.getElem_cons_zero, List.setIfInBounds_toArray, List.set_cons_zero, List.set_cons_succ]
          refine wpAnyH_ready (rs := [5]) (by kernel_rfl) (by simp) ?_
          refine AllReadyH.cons rfl (fun K hK => ?_) AllReadyH.nil
          go_simp
          go_at_call 137
          refine (l1Has_any _ (natInts b) x _ (HBN.out.below (HB.out.trans (below_dN (Below.refl _ _) 1)))).mono ?_
          rintro e w4 ⟨he4, hw4⟩
          rw [hd.out] at he4
          subst he4
          subst hw4
          refine hK.out _ _ ?_ (fun hHeld => ?_)
          · exact ⟨hcg, hq⟩
          clear hK K
          try simp only [Act.put, List.getElem_toArray, List.getElem_cons_succ, List.getElem_cons_zero, List.setIfInBounds_toArray, List.set_cons_zero, List.set_cons_succ]
          refine wpAnyH_take (i := 6) (v := .bool false) rfl (by kernel_rfl) (by kernel_rfl) (by kernel_rfl) (fun _ _ _ h => h) (Or.inl ⟨by rfl, ?_⟩) (by assumption) ?_
          · intro wz hSw; (try dsimp only at hSw); go_simp; try rfl
          try simp only [Act.put, List.getElem_toArray, List.getElem_cons_succ, List.getElem_cons_zero, List.setIfInBounds_toArray, List.set_cons_zero, List.set_cons_succ]
          refine wpAnyH_take (i := 7) (v := .agg #[.slice p g.length c]) rfl (by kernel_rfl) (by kernel_rfl) (by kernel_rfl) (fun _ _ _ h => h) (Or.inl ⟨by rfl, ?_⟩) (by assumption) ?_
          · intro wz hSw; (try dsimp only at hSw); go_simp; try rfl
          try simp only [Act.put, List.getElem_toArray, List.getElem_cons_succ, List.getElem_cons_zero, List.setIfInBounds_toArray, List.set_cons_zero, List.set_cons_succ]
          refine wpAnyH_take (i := 8) (v := .slice bp b.length bc) rfl (by kernel_rfl) (by kernel_rfl) (by kernel_rfl) (fun _ _ _ h => h) (Or.inl ⟨by rfl, ?_⟩) (by assumption) ?_
          · intro wz hSw; (try dsimp only at hSw); go_simp; try rfl
          try simp only [Act.put, List.getElem_toArray, List.getElem_cons_succ, List.getElem_cons_zero, List.setIfInBounds_toArray, List.set_cons_zero, List.set_cons_succ]
          refine wpAnyH_take (i := 9) (v := .slice (some ⟨qb, qo, none⟩) a.length ac) rfl (by kernel_rfl) (by kernel_rfl) (by kernel_rfl) (fun _ _ _ h => h) (Or.inl ⟨by rfl, ?_⟩) (by assumption) ?_
          · intro wz hSw; (try dsimp only at hSw); go_simp; try rfl
          try simp only [Act.put, List.getElem_toArray, List.getElem_cons_succ, List.getElem_cons_zero, List.setIfInBounds_toArray, List.set_cons_zero, List.set_cons_succ]
          refine wpAnyH_take (i := 10) (v := .int .i64 i) rfl (by kernel_rfl) (by kernel_rfl) (by kernel_rfl) (fun _ _ _ h => h) (Or.inl ⟨by rfl, ?_⟩) (by assumption) ?_
          · intro wz hSw; (try dsimp only at hSw); go_simp; try rfl
          try simp only [Act.put, List.getElem_toArray, List.getElem_cons_succ, List.getElem_cons_zero, List.setIfInBounds_toArray, List.set_cons_zero, List.set_cons_succ]
          refine wpAnyH_take (i := 11) (v := .pointer (some ⟨qb, qo + i, none⟩)) rfl (by kernel_rfl) (by kernel_rfl) (by kernel_rfl) (fun _ _ _ h => h) (Or.inl ⟨by rfl, ?_⟩) (by assumption) ?_
          · intro wz hSw; (try dsimp only at hSw); go_simp; try rfl
          try simp only [Act.put, List.getElem_toArray, List.getElem_cons_succ, List.getElem_cons_zero, List.setIfInBounds_toArray, List.set_cons_zero, List.set_cons_succ]
          refine wpAnyH_take (i := 12) (v := .int .i64 (x : Int)) rfl (by kernel_rfl) (by kernel_rfl) (by kernel_rfl) (fun _ _ _ h => h) (Or.inl ⟨by rfl, ?_⟩) (by assumption) ?_
          · intro wz hSw; (try dsimp only at hSw); go_simp; try rfl
          try simp only [Act.put, List.getElem_toArray, List.getElem_cons_succ, List.getElem_cons_zero, List.setIfInBounds_toArray, List.set_cons_zero, List.set_cons_succ]
          refine wpAnyH_ready (rs := [13]) (by kernel_rfl) (by simp) ?_
          refine AllReadyH.cons rfl (fun K hK => ?_) AllReadyH.nil
          go_simp
          go_at_call 154
          refine (l8Near_any _ _ _ g b x rfl hbn16 HBL.out _ (HG.out.below (HB.out.trans (below_dN (Below.refl _ _) 1))) (HBN.out.below (HB.out.trans (below_dN (Below.refl _ _) 1)))).mono ?_
          rintro e w5 ⟨z, he5, hz5, hb5⟩
          subst he5
          have HZ := Lib.hid hz5
          have hb5x : Below wr.heap.size wr w5 := (below_dN (Below.refl _ _) 1).trans hb5
          clear hz5
          refine hK.out _ _ ?_ (fun hHeld => ?_)
          · exact ⟨hb5x.at' hcg, hb5x.at' hq⟩
          clear hK K
          try simp only [Act.put, List.getElem_toArray, List.getElem_cons_succ, List.getElem_cons_zero, List.setIfInBounds_toArray, List.set_cons_zero, List.set_cons_succ]
          refine wpAnyH_take (i := 14) (v := .bool (decide ((0 : Int) < z))) rfl (by kernel_rfl) (by kernel_rfl) (by kernel_rfl) (fun _ _ _ h => h) (Or.inl ⟨by rfl, ?_⟩) (by assumption) ?_
          · intro wz hSw; (try dsimp only at hSw); go_simp; try rfl
          try simp only [Act.put, List.getElem_toArray, List.getElem_cons_succ, List.getElem_cons_zero, List.setIfInBounds_toArray, List.set_cons_zero, List.set_cons_succ]
          refine wpAnyH_take (i := 15) (v := .bool (decide ((0 : Int) < z))) rfl (by kernel_rfl) (by kernel_rfl) (by kernel_rfl) (fun _ _ _ h => h) (Or.inl ⟨by rfl, ?_⟩) (by assumption) ?_
          · intro wz hSw; (try dsimp only at hSw); go_simp; try rfl
          try simp only [Act.put, List.getElem_toArray, List.getElem_cons_succ, List.getElem_cons_zero, List.setIfInBounds_toArray, List.set_cons_zero, List.set_cons_succ]
          refine wpAnyH_done (by kernel_rfl) ?_ _
          go_wp2
          go_meet
          exact ⟨z, rfl, HZ, hb5x⟩
        case rest =>
        obtain ⟨z, rfl, HZ, hbc⟩ := hcut
        have HBC := Lib.hid (HB.out.trans (hbc.mono HB.out.size))
        clear hcg hq hbc
        by_cases hz : (0 : Int) < z
        · have HY := Lib.hid (dec_true (TN.out.2 ⟨x, HLT.out, .inr (HZ.out.1 hz)⟩))
          go_wp2_with fail
          go_ret
          exact ⟨by rw [HY.out]; rfl, HB0.out.trans (HBC.out.mono HB0.out.size)⟩
        · go_wp2_with fail
          go_roundw
          case rel => exact ⟨i + 1, by omega, by go_num, Lib.hid (fun j h hj => by
            by_cases e : j < i
            · exact HNO.out j h e
            · obtain rfl : j = i := by omega
              rw [← HX.out]
              rintro (k | k)
              · exact HXB.out k
              · exact hz (HZ.out.2 k)), HBC.out⟩
          case measure => simp [intOf]; omega
    · obtain rfl : i = a.length := by omega
      have HN := Lib.hid (dec_false (fun h => by
        obtain ⟨x, hx, h2⟩ := TN.out.1 h
        obtain ⟨j, hj, rfl⟩ := List.getElem_of_mem hx
        exact HNO.out j hj hj h2))
      clear hb
      go_wp2_with fail
      go_ret
      exact ⟨by rw [HN.out]; rfl, HB0.out.trans (HB.out.mono HB0.out.size)⟩

theorem setIn_len16 {g : List (List Int)} (hg : GOk g) {s : List Int} (h : SetIn g.length s) : s.length ≤ 16 := by
  have h1 := setIn_length (by omega) h
  have := hg.le
  omega

set_option maxRecDepth 100000 in
set_option maxHeartbeats 2000000 in
theorem specBrambleOk_any (v sv : Value) (g S : List (List Int)) (hgl : g.length ≤ 1000000000) (w : World) (hg : Gr w v g) (hs : Rws w 27 2 sv S) :
    Calls Tryd.prog 52 #[v, sv] w fun e w' => e = .returned (.bool (dec (BrS g S))) ∧ Below w.heap.size w w' := by
  have hg0 := hg
  obtain ⟨u, rfl, hr⟩ := hg
  obtain ⟨p, c, rfl, _⟩ := hr.shape
  obtain ⟨sp, sc, rfl, _, hsc, _⟩ := hs.shape
  have hbA := Lib.hid (below_alloc w (.cells #[.slice p g.length c] 29))
  have HG := Lib.hid (hg0.below hbA.out)
  have HS := Lib.hid (hs.below hbA.out)
  have BX := Lib.hid (Box.new w (.slice p g.length c) 29)
  clear hr hg0 hs
  by_cases hok : GOk g
  case neg =>
    have hd := Lib.hid (dec_false hok)
    have HD := Lib.hid (dec_false (show ¬ BrS g S from fun h => hok h.1.1))
    clear hok
    go_enter Tryd.func52, Tryd.ntmps52
    go_wp2_with (go_at_call 85; refine (specGraphOk_any _ g _ HG.out).mono ?_; rintro e w2 ⟨he, hb2⟩; rw [hd.out] at he; subst he)
    go_ret
    exact ⟨by rw [HD.out]; rfl, hbA.out.trans (hb2.mono hbA.out.size)⟩
  have hd := Lib.hid (dec_true hok)
  have h16 := hok.le
  have Hok := Lib.hid hok
  clear hok
  by_cases h80 : S.length ≤ 80
  case neg =>
    have h80' : ¬ (S.length : Int) ≤ 80 := by omega
    have HD := Lib.hid (dec_false (show ¬ BrS g S from fun h => h80 h.1.2))
    clear h80
    go_enter Tryd.func52, Tryd.ntmps52
    go_wp2_with (go_at_call 85; refine (specGraphOk_any _ g _ HG.out).mono ?_; rintro e w2 ⟨he, hb2⟩; rw [hd.out] at he; subst he)
    go_ret
    exact ⟨by rw [HD.out]; rfl, hbA.out.trans (hb2.mono hbA.out.size)⟩
  have h80' : (S.length : Int) ≤ 80 := by omega
  go_enter Tryd.func52, Tryd.ntmps52
  go_upto_region 3 with (go_at_call 85; refine (specGraphOk_any _ g _ HG.out).mono ?_; rintro e w2 ⟨he, hb2⟩; rw [hd.out] at he; subst he)
  have BX2 := Lib.hid (BX.out.keep hb2)
  have HG2 := Lib.hid (HG.out.below hb2)
  have HS2 := Lib.hid (HS.out.below hb2)
  have HB2 := Lib.hid (hbA.out.trans (hb2.mono hbA.out.size))
  clear hb2
  go_wp2_with fail
  go_loopw [5] (fun iv wr => ∃ i : Nat, i ≤ S.length ∧ iv = .int .i64 i ∧ Hid (BrTo g S i) ∧ Below w2.heap.size w2 wr) (fun iv _ => S.length - (intOf iv).toNat)
  case atStart => exact ⟨0, Nat.zero_le _, rfl, Lib.hid (fun a ha => absurd ha (Nat.not_lt_zero _)), Below.refl _ _⟩
  case round =>
    obtain ⟨i, hi, rfl, HTO, hb⟩ := hrel
    have HB := Lib.hid hb
    by_cases hlt : i < S.length
    · obtain ⟨sb, so, rp, rc, rfl, hce, hne⟩ := (HS2.out.below hb).get (k := i) hlt
      replace hce : wr.cell? ⟨sb, so + i, none⟩ = some (.slice rp (row S i).length rc) := hce
      replace hne : Nums wr 2 .i64 (.slice rp (row S i).length rc) (row S i) := hne
      have HNI := Lib.hid hne
      have hbx := (BX2.out.keep hb).cell
      obtain ⟨rl, hrl⟩ : ∃ rl, rl = (row S i).length := ⟨_, rfl⟩
      rw [← hrl] at hce HNI
      clear hne hb hrl
      go_upto_region 6 with fail
      go_cut [27] (fun s27 wx => s27 = .bool (!dec (ConnS g (row S i))) ∧ Below wr.heap.size wr wx)
      case first =>
        go_region_held3 (fun w' => w'.cell? ⟨w.heap.size, 0, none⟩ = some (.slice p g.length c) ∧ w'.cell? ⟨sb, so + i, none⟩ = some (.slice rp rl rc))
          (first | exact ⟨hbx, hce⟩ | exact ⟨hb4'.at' hbx, hb4'.at' hce⟩ | go_keep)
          (first | (go_at_call 102; refine (specConnectedIn_any _ _ g (row S i) hgl _ (HG2.out.below (HB.out.trans (below_dN (Below.refl _ _) 1))) (HNI.out.below (below_dN (Below.refl _ _) 1))).mono ?_; rintro e w4 ⟨rfl, hb4⟩; have hb4' : Below wr.heap.size wr w4 := (below_dN (Below.refl _ _) 1).trans hb4))
        all_goals go_wp2
        all_goals go_meet
        all_goals exact ⟨rfl, hb4'⟩
      case rest =>
      obtain ⟨rfl, hbc⟩ := hcut
      have HBC := Lib.hid (HB.out.trans (hbc.mono HB.out.size))
      clear hce hbx hbc HNI
      by_cases hcn : ConnS g (row S i)
      case neg =>
        have HNB := Lib.hid (dec_false (show ¬ BrS g S from fun h => hcn (h.2 i hlt).1))
        rw [dec_false hcn]
        clear hcn
        go_wp2_with fail
        go_ret
        exact ⟨by rw [HNB.out]; rfl, HB2.out.trans (HBC.out.mono HB2.out.size)⟩
      have HCN := Lib.hid hcn
      rw [dec_true hcn]
      clear hcn
      go_wp2_with fail
      go_loopw [6] (fun kv wr => ∃ k : Nat, k ≤ i ∧ kv = .int .i64 k ∧ Hid (∀ b, b < k → TouchP g (row S b) (row S i)) ∧ Below w2.heap.size w2 wr) (fun kv _ => i - (intOf kv).toNat)
      case atStart => exact ⟨0, Nat.zero_le _, rfl, Lib.hid (fun b hb => absurd hb (Nat.not_lt_zero _)), HBC.out⟩
      case round =>
        clear HBC HB
        obtain ⟨k, hk, rfl, HTC, hb⟩ := hrel
        have HB := Lib.hid hb
        by_cases hltk : k < i
        · obtain ⟨_, _, ip, ic, e, hcf, hnf⟩ := (HS2.out.below hb).get (k := i) hlt
          simp only [Option.some.injEq, Addr.mk.injEq, and_true] at e
          obtain ⟨rfl, rfl⟩ := e
          obtain ⟨_, _, tp, tc, e, hch, hnh⟩ := (HS2.out.below hb).get (k := k) (by omega)
          simp only [Option.some.injEq, Addr.mk.injEq, and_true] at e
          obtain ⟨rfl, rfl⟩ := e
          have hck := (HTO.out k hltk).1
          obtain ⟨i1, i2, i3⟩ := setIn_nats HCN.out.1.2
          obtain ⟨k1, k2, k3⟩ := setIn_nats hck.1.2
          obtain ⟨a, ha⟩ : ∃ a, a = (row S k).map Int.toNat := ⟨_, rfl⟩
          obtain ⟨b, hb'⟩ : ∃ b, b = (row S i).map Int.toNat := ⟨_, rfl⟩
          rw [← ha] at k1 k2 k3
          rw [← hb'] at i1 i2 i3
          replace hcf : wr.cell? ⟨sb, so + i, none⟩ = some (.slice ip (row S i).length ic) := hcf
          replace hch : wr.cell? ⟨sb, so + k, none⟩ = some (.slice tp (row S k).length tc) := hch
          have HNI : Hid (Nums wr 2 .i64 (.slice ip (row S i).length ic) (natInts b)) := Lib.hid (by rw [i1]; exact hnf)
          have HNK : Hid (Nums wr 2 .i64 (.slice tp (row S k).length tc) (natInts a)) := Lib.hid (by rw [k1]; exact hnh)
          have HI3 := Lib.hid i3
          have hb16 : b.length ≤ 16 := by rw [hb', List.length_map]; exact setIn_len16 Hok.out HCN.out.1.2
          have HEQ : Hid (dec (TouchP g (natInts a) (natInts b)) = dec (TouchP g (row S k) (row S i))) := Lib.hid (by rw [i1, k1])
          have hbx := (BX2.out.keep hb).cell
          obtain ⟨il, hil⟩ : ∃ il, il = (row S i).length := ⟨_, rfl⟩
          obtain ⟨kl, hkl⟩ : ∃ kl, kl = (row S k).length := ⟨_, rfl⟩
          rw [← hil] at hcf HNI
          rw [← hkl] at hch HNK
          have hkS : k < S.length := by omega
          clear hnf hnh hck i1 i2 i3 k1 k2 k3 ha hb' hil hkl hb
          go_upto_region 11 with fail
          go_cut [43] (fun s43 wx => s43 = .bool (!dec (TouchP g (row S k) (row S i))) ∧ Below wr.heap.size wr wx)
          case first =>
            go_region_held3 (fun w' => w'.cell? ⟨w.heap.size, 0, none⟩ = some (.slice p g.length c) ∧ w'.cell? ⟨sb, so + i, none⟩ = some (.slice ip il ic) ∧ w'.cell? ⟨sb, so + k, none⟩ = some (.slice tp kl tc))
              (first | exact ⟨hbx, hcf, hch⟩ | exact ⟨hb4'.at' hbx, hb4'.at' hcf, hb4'.at' hch⟩ | go_keep)
              (first | (go_at_call 103; refine (l11Touch_any _ _ _ g a b hb16 HI3.out _ (HG2.out.below (HB.out.trans (below_dN (Below.refl _ _) 1))) (HNK.out.below (below_dN (Below.refl _ _) 1)) (HNI.out.below (below_dN (Below.refl _ _) 1))).mono ?_; rintro e w4 ⟨he4, hb4⟩; rw [HEQ.out] at he4; subst he4; have hb4' : Below wr.heap.size wr w4 := (below_dN (Below.refl _ _) 1).trans hb4))
            all_goals go_wp2
            all_goals go_meet
            all_goals exact ⟨rfl, hb4'⟩
          case rest =>
          obtain ⟨rfl, hbc⟩ := hcut
          have HBC := Lib.hid (HB.out.trans (hbc.mono HB.out.size))
          clear hcf hch hbx hbc HNI HNK
          by_cases htc : TouchP g (row S k) (row S i)
          · have HTP := Lib.hid htc
            rw [dec_true htc]
            clear htc
            go_wp2_with fail
            go_roundw
            case rel => exact ⟨k + 1, by omega, by go_num, Lib.hid (fun b hb => by
              by_cases e : b < k
              · exact HTC.out b e
              · obtain rfl : b = k := by omega
                exact HTP.out), HBC.out⟩
            case measure => simp [intOf]; omega
          · have HNB := Lib.hid (dec_false (show ¬ BrS g S from fun h => htc ((h.2 i hlt).2 k hltk)))
            rw [dec_false htc]
            clear htc
            go_wp2_with fail
            go_ret
            exact ⟨by rw [HNB.out]; rfl, HB2.out.trans (HBC.out.mono HB2.out.size)⟩
        · obtain rfl : k = i := by omega
          have HTC2 := Lib.hid HTC.out
          clear hb
          go_wp2_with fail
          go_roundw
          case rel => exact ⟨k + 1, by omega, by go_num, Lib.hid (brTo_step HTO.out HCN.out HTC2.out), HB.out⟩
          case measure => simp [intOf]; omega
    · obtain rfl : i = S.length := by omega
      have HY := Lib.hid (dec_true (show BrS g S from ⟨⟨Hok.out, h80⟩, HTO.out⟩))
      clear hb
      go_wp2_with fail
      go_ret
      exact ⟨by rw [HY.out]; rfl, HB2.out.trans (HB.out.mono HB2.out.size)⟩

set_option maxRecDepth 100000 in
set_option maxHeartbeats 2000000 in
theorem l11Meets_any (tv sv : Value) (T : List Nat) (S : List (List Int)) (hT : T.length ≤ 16) (few : S.length ≤ 1000000) (w : World) (hn : Nums w 2 .i64 tv (natInts T)) (hs : Rws w 27 2 sv S) :
    Calls Tryd.prog 55 #[tv, sv] w fun e w' => e = .returned (.bool (dec (CovN S (mask (natInts T))))) ∧ Below w.heap.size w w' := by
  obtain ⟨sp, sc, rfl, _⟩ := hs.shape
  have HN := Lib.hid hn
  have HS := Lib.hid hs
  clear hn hs
  have HMEM : Hid (∀ j, (∃ i, (mask (natInts T)).testBit i = true ∧ (i : Int) ∈ row S j) ↔ (meetL T (row S j) T.length).length ≠ 0) := Lib.hid (fun j => by
    unfold meetL
    rw [List.take_length]
    constructor
    · rintro ⟨i, h1, h2⟩ h3
      rw [mask_bit, decide_eq_true_eq] at h1
      have h4 : List.filter (fun (j' : Nat) => decide ((j' : Int) ∈ row S j)) T = [] := List.eq_nil_of_length_eq_zero h3
      rw [List.filter_eq_nil_iff] at h4
      exact h4 i h1 (decide_eq_true h2)
    · intro h
      obtain ⟨i, hi⟩ := List.exists_mem_of_ne_nil (List.filter (fun (j' : Nat) => decide ((j' : Int) ∈ row S j)) T) (fun e => h (by rw [e]; rfl))
      obtain ⟨h1, h2⟩ := List.mem_filter.1 hi
      exact ⟨i, by rw [mask_bit]; exact decide_eq_true h1, of_decide_eq_true h2⟩)
  go_enter Tryd.func55, Tryd.ntmps55
  go_wp2_with fail
  go_loopw [5] (fun iv wr => ∃ i : Nat, i ≤ S.length ∧ iv = .int .i64 i ∧ Hid (∀ j, j < i → ∃ t, (mask (natInts T)).testBit t = true ∧ (t : Int) ∈ row S j) ∧ Below w.heap.size w wr) (fun iv _ => S.length - (intOf iv).toNat)
  case atStart => exact ⟨0, Nat.zero_le _, rfl, Lib.hid (fun a ha => absurd ha (Nat.not_lt_zero _)), Below.refl _ _⟩
  case round =>
    obtain ⟨i, hi, rfl, HTO, hb⟩ := hrel
    have HB := Lib.hid hb
    by_cases hlt : i < S.length
    · obtain ⟨sb, so, rp, rc, rfl, hce, hne⟩ := (HS.out.below hb).get (k := i) hlt
      replace hce : wr.cell? ⟨sb, so + i, none⟩ = some (.slice rp (row S i).length rc) := hce
      replace hne : Nums wr 2 .i64 (.slice rp (row S i).length rc) (row S i) := hne
      have HNI := Lib.hid hne
      obtain ⟨rl, hrl⟩ : ∃ rl, rl = (row S i).length := ⟨_, rfl⟩
      rw [← hrl] at hce HNI
      have hml := HMEM.out i
      obtain ⟨ml, hmle⟩ : ∃ ml, ml = (meetL T (row S i) T.length).length := ⟨_, rfl⟩
      rw [← hmle] at hml
      have HML := Lib.hid hml
      have HMLE := Lib.hid hmle
      clear hne hb hrl hml hmle
      by_cases h0 : ml = 0
      · have h0' : ((ml : Int) == 0) = true := by rw [h0]; rfl
        have HNC := Lib.hid (dec_false (show ¬ CovN S (mask (natInts T)) from fun h => HML.out.1 (h i hlt) h0))
        clear h0
        go_wp2_with (go_at_call 104; refine (l8Meet_any _ _ T (row S i) (by omega) _ (HN.out.below HB.out) HNI.out).mono ?_; rintro e w4 ⟨ov, rfl, hown, hb4⟩; rw [← HMLE.out] at hown; obtain ⟨op, oc, rfl⟩ := owns_shapeB hown; clear hown)
        go_ret
        exact ⟨by rw [HNC.out]; rfl, HB.out.trans (hb4.mono HB.out.size)⟩
      · have h0' : ((ml : Int) == 0) = false := by simp; exact h0
        have HY := Lib.hid (HML.out.2 h0)
        clear h0
        go_wp2_with (go_at_call 104; refine (l8Meet_any _ _ T (row S i) (by omega) _ (HN.out.below HB.out) HNI.out).mono ?_; rintro e w4 ⟨ov, rfl, hown, hb4⟩; rw [← HMLE.out] at hown; obtain ⟨op, oc, rfl⟩ := owns_shapeB hown; clear hown)
        go_roundw
        case rel => exact ⟨i + 1, by omega, by go_num, Lib.hid (fun j hj => by
          by_cases e : j < i
          · exact HTO.out j e
          · obtain rfl : j = i := by omega
            exact HY.out), HB.out.trans (hb4.mono HB.out.size)⟩
        case measure => simp [intOf]; omega
    · obtain rfl : i = S.length := by omega
      have HY := Lib.hid (dec_true (show CovN S (mask (natInts T)) from HTO.out))
      clear hb
      go_wp2_with fail
      go_ret
      exact ⟨by rw [HY.out]; rfl, HB.out⟩

end Go.Proofs.YtihlcmenfopaiaaDoor
