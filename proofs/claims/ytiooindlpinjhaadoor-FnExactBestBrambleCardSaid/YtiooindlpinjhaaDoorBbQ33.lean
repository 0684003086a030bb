/- Walks: l8Meet, l1All (the reference's cliques). -/
import Derived.Test.YtiooindlpinjhaaDoorBbQ9
import Derived.Test.YtiooindlpinjhaaDoorBbQ19
import Derived.Test.YtiooindlpinjhaaDoorBbQ7
import Derived.Test.YtiooindlpinjhaaDoorBbQ8
import Derived.Deep.RegionHeld3
import Derived.Deep.DeepCutAuto
import Derived.Test.YtiooindlpinjhaaDoorBbQ12
import Derived.Test.YtiooindlpinjhaaDoorBbQ32
import Derived.Test.YtiooindlpinjhaaDoorBbQ13
namespace Go.Proofs.YtiooindlpinjhaaDoor
open Go.RowKit

set_option maxRecDepth 100000 in
set_option maxHeartbeats 1000000 in
theorem l1All_any (z : Int) (n : Nat) (hz : z = n) (hn : n ≤ 1000) (w : World) :
    Calls Tryd.prog 108 #[.int .i64 z] w fun e w' => ∃ ov, e = .returned ov ∧ w'.ownsRow w.heap.size 2 1 ov n ((natInts (List.range n)).map (Value.int .i64)) ∧ Below w.heap.size w w' := by
  subst hz
  have HO := Lib.hid (ownsRow_empty w 2 1)
  have HB := Lib.hid (below_alloc w (.cells #[] 2))
  go_enter Tryd.func108, Tryd.ntmps108
  go_wp2
  go_loopw [3, 4] (fun o i wr => ∃ k : Nat, k ≤ n ∧ i = .int .i64 k ∧ wr.ownsRow w.heap.size 2 1 o k ((natInts (List.range k)).map (Value.int .i64)) ∧ Below w.heap.size w wr) (fun _ i _ => n - (intOf i).toNat)
  case atStart => exact ⟨0, Nat.zero_le _, rfl, HO.out, HB.out⟩
  case round =>
    obtain ⟨k, hk, rfl, hown, hbel⟩ := hrel
    have hsz := hbel.size
    by_cases hlt : k < n
    · go_wp2_with (at_builtin; refine wpList_app1 ty_i64 rfl rfl rfl hown rfl rfl (by omega) (by omega) ?_; intro v' w1 hown' hg _)
      go_roundw
      case rel => exact ⟨k + 1, by omega, by go_num, by rw [List.range_succ, show natInts (List.range k ++ [k]) = natInts (List.range k) ++ [(k : Int)] by simp [natInts], List.map_append]; exact hown', below_grown hbel hown hg (Nat.le_refl _) hsz⟩
      case measure => simp [intOf]; omega
    · obtain rfl : k = n := by omega
      go_wp2
      go_ret
      exact ⟨_, rfl, hown, hbel⟩

theorem nums_at {w : World} {E : TypeId} {p : Option Addr} {m c : Nat} {xs : List Int} (h : Nums w E .i64 (.slice p m c) xs) : At w E p (xs.map (Value.int .i64)) := by
  obtain ⟨p', c', e, _, _, _, hat⟩ := h
  simp only [Value.slice.injEq] at e
  obtain ⟨rfl, _, _⟩ := e
  exact hat
/-- Those of xs that are in ys, up to the k-th. -/
def meetL (xs : List Nat) (ys : List Int) (k : Nat) : List Nat := (xs.take k).filter fun j => decide ((j : Int) ∈ ys)
theorem meetL_succ {xs : List Nat} {ys : List Int} {k : Nat} (h : k < xs.length) : meetL xs ys (k + 1) = if ((xs[k] : Nat) : Int) ∈ ys then meetL xs ys k ++ [xs[k]] else meetL xs ys k := by
  unfold meetL
  rw [take_snoc _ k h, List.filter_append]
  by_cases hm : ((xs[k] : Nat) : Int) ∈ ys
  · rw [if_pos hm]; simp [hm]
  · rw [if_neg hm]; simp [hm]
theorem meetL_len (xs : List Nat) (ys : List Int) (k : Nat) : (meetL xs ys k).length ≤ xs.length := Nat.le_trans (List.length_filter_le _ _) (by rw [List.length_take]; omega)

end Go.Proofs.YtiooindlpinjhaaDoor

/- Walks: the reference's CoverOf (printed in part by wip/mkCvS.py). -/
namespace Go.Proofs.YtiooindlpinjhaaDoor
open Go.RowKit

theorem natInts_snocS (l : List Nat) (x : Nat) : natInts (l ++ [x]) = natInts l ++ [(x : Int)] := by simp [natInts]
set_option maxHeartbeats 400000 in
theorem l1Flag_anyC (b : Bool) (w : World) : Calls Tryd.prog 164 #[.bool b] w fun e w' => e = .returned (.int .i64 ((if b then 1 else 0 : Nat) : Int)) ∧ w = w' := by
  cases b
  · go_enter Tryd.func164, Tryd.ntmps164
    go_wp2
    go_ret
    exact ⟨rfl, rfl⟩
  · go_enter Tryd.func164, Tryd.ntmps164
    go_wp2
    go_ret
    exact ⟨rfl, rfl⟩

set_option maxRecDepth 100000 in
set_option maxHeartbeats 2000000 in
theorem l8Near_any (v lv : Value) (y : Int) (g : List (List Int)) (b : List Nat) (x : Nat) (hy : y = x) (hb16 : b.length ≤ 16) (hbl : ∀ t ∈ b, t < g.length) (w : World) (hg : Gr w v g) (hn : Nums w 2 .i64 lv (natInts b)) :
    Calls Tryd.prog 156 #[v, lv, .int .i64 y] w fun e w' => ∃ z : Int, e = .returned (.int .i64 z) ∧ (0 < z ↔ ∃ t ∈ b, (x : Int) ∈ row g t) ∧ Below w.heap.size w w' := by
  subst hy
  have hg0 := hg
  obtain ⟨gu, rfl, hr⟩ := hg
  obtain ⟨p, c, rfl, _⟩ := hr.shape
  obtain ⟨lp, lc, rfl, _⟩ := id hn.shape
  obtain ⟨W0, hW0⟩ : ∃ W0, W0 = w.alloc (.cells #[.slice p g.length c] 28) := ⟨_, rfl⟩
  have hb0 : Below w.heap.size w W0 := by rw [hW0]; exact below_alloc _ _
  have HB0 := Lib.hid hb0
  have HBG : Hid (Box W0 w.heap.size 28 (.slice p g.length c)) := Lib.hid (by rw [hW0]; exact Box.new _ _ _)
  have HG := Lib.hid (hg0.below hb0)
  have HN := Lib.hid (hn.below hb0)
  have SZ0 := Lib.hid (show W0.heap.size = w.heap.size + 1 by rw [hW0, size_alloc])
  have HBL := Lib.hid hbl
  have hnl := natInts_length b
  rw [hnl]
  rw [hnl] at HN
  clear hg0 hb0 hr hn hbl hnl
  go_enter Tryd.func156, Tryd.ntmps156
  go_upto_region 1 with fail
  rw [← hW0]
  clear hW0
  go_wp2_with fail
  go_loopw [7, 8] (fun mv kv wr => ∃ (k m : Nat), k ≤ b.length ∧ kv = .int .i64 k ∧ mv = .int .i64 m ∧ m ≤ k ∧ Hid (0 < m ↔ ∃ t ∈ b.take k, (x : Int) ∈ row g t) ∧ Below W0.heap.size W0 wr) (fun _ kv _ => b.length - (intOf kv).toNat)
  case atStart => exact ⟨0, 0, Nat.zero_le _, rfl, rfl, Nat.le_refl _, Lib.hid (by simp), Below.refl _ _⟩
  case round =>
    obtain ⟨k, m, hk, rfl, rfl, hmk, HM, hb⟩ := hrel
    have HB := Lib.hid hb
    by_cases hlt : k < b.length
    · have hcg := hb.at (by have := SZ0.out; omega) HBG.out.cell
      obtain ⟨qb, qo, rfl, hq⟩ := (HN.out.below hb).get (k := k) (by rw [natInts_length]; exact hlt)
      obtain ⟨t, ht⟩ : ∃ t, t = b[k] := ⟨_, rfl⟩
      rw [natInts_atC hlt, ← ht] at hq
      have htg : t < g.length := by rw [ht]; exact HBL.out _ (List.getElem_mem hlt)
      obtain ⟨fl, hfl⟩ : ∃ fl : Nat, fl = if dec ((x : Int) ∈ row g t) then 1 else 0 := ⟨_, rfl⟩
      have hf1 : fl ≤ 1 := by rw [hfl]; split <;> omega
      have FLAG : Hid (∀ w, Calls Tryd.prog 164 #[.bool (dec ((x : Int) ∈ row g t))] w fun e w' => e = .returned (.int .i64 (fl : Int)) ∧ w = w') := Lib.hid (fun w => by rw [hfl]; exact l1Flag_anyC _ w)
      have HM2 : Hid (0 < m + fl ↔ ∃ t ∈ b.take (k + 1), (x : Int) ∈ row g t) := Lib.hid (by
        rw [take_snoc' b k hlt, ← ht]
        have h1 : 0 < fl ↔ (x : Int) ∈ row g t := by
          rw [hfl]
          by_cases e : (x : Int) ∈ row g t
          · simp [dec_true e, e]
          · simp [dec_false e, e]
        constructor
        · intro h
          by_cases e : 0 < m
          · obtain ⟨s, h2, h3⟩ := HM.out.1 e
            exact ⟨s, List.mem_append_left _ h2, h3⟩
          · exact ⟨t, by simp, h1.1 (by omega)⟩
        · rintro ⟨s, h2, h3⟩
          rcases List.mem_append.1 h2 with e | e
          · have := HM.out.2 ⟨s, e, h3⟩
            omega
          · obtain rfl : s = t := by simpa using e
            have := h1.2 h3
            omega)
      have hwr : IntKind.i64.wrap ((m : Int) + (fl : Int)) = ((m + fl : Nat) : Int) := by rw [IntKind.wrap_i64]; omega
      have HGr := Lib.hid (HG.out.below hb)
      clear ht hfl hb
      go_upto_region 5 with fail
      go_region_held3 (fun w' => w'.cell? ⟨w.heap.size, 0, none⟩ = some (.slice p g.length c) ∧ w'.cell? ⟨qb, qo + k, none⟩ = some (.int .i64 t))
        (first | exact ⟨hcg, hq⟩ | exact ⟨BWA.at' hcg, BWA.at' hq⟩ | go_keep)
        (first
          | (go_at_call 99; refine (l1Edge_any _ g _ _ t x rfl rfl htg _ (HGr.out.below (below_dN (Below.refl _ _) 1))).mono ?_; rintro e w4 ⟨rfl, hb4⟩; have BWA : Below wr.heap.size wr w4 := (below_dN (Below.refl _ _) 1).trans hb4; clear hb4)
          | (go_at_call 164; refine (FLAG.out _).mono ?_; rintro e w5 ⟨rfl, rfl⟩))
      all_goals
        clear hcg hq
        go_wp2
        go_roundw
        case rel => exact ⟨k + 1, m + fl, by omega, by go_num, rfl, by omega, HM2, HB.out.trans (BWA.mono HB.out.size)⟩
        case measure => simp [intOf]; omega
    · obtain rfl : k = b.length := by omega
      have HE : Hid (0 < m ↔ ∃ t ∈ b, (x : Int) ∈ row g t) := Lib.hid (by have := HM.out; rwa [List.take_length] at this)
      clear hb
      go_wp2_with fail
      go_ret
      exact ⟨m, rfl, ⟨fun h => HE.out.1 (by omega), fun h => by have := HE.out.2 h; omega⟩, HB0.out.trans (HB.out.mono HB0.out.size)⟩

theorem touch_nat {g : List (List Int)} {a b : List Nat} : TouchP g (natInts a) (natInts b) ↔ ∃ x ∈ a, x ∈ b ∨ ∃ t ∈ b, (x : Int) ∈ row g t := by
  unfold TouchP
  constructor
  · rintro ⟨x, hx, h⟩
    obtain ⟨i, hi, rfl⟩ := mem_natInts.1 hx
    refine ⟨i, hi, ?_⟩
    rcases h with h | ⟨y, hy, h⟩
    · obtain ⟨j, hj, e⟩ := mem_natInts.1 h
      obtain rfl : j = i := by omega
      exact .inl hj
    · obtain ⟨j, hj, rfl⟩ := mem_natInts.1 hy
      exact .inr ⟨j, hj, by simpa using h⟩
  · rintro ⟨i, hi, h⟩
    refine ⟨(i : Int), mem_natInts.2 ⟨i, hi, rfl⟩, ?_⟩
    rcases h with h | ⟨j, hj, h⟩
    · exact .inl (mem_natInts.2 ⟨i, h, rfl⟩)
    · exact .inr ⟨(j : Int), mem_natInts.2 ⟨j, hj, rfl⟩, by simpa using h⟩

set_option maxRecDepth 100000 in
set_option maxHeartbeats 4000000 in
theorem l11Touch_any (v av bv : Value) (g : List (List Int)) (a b : List Nat) (hbn16 : b.length ≤ 16) (hbl : ∀ t ∈ b, t < g.length) (w : World) (hg : Gr w v g) (hna : Nums w 2 .i64 av (natInts a)) (hnb : Nums w 2 .i64 bv (natInts b)) :
    Calls Tryd.prog 135 #[v, av, bv] w fun e w' => e = .returned (.bool (dec (TouchP g (natInts a) (natInts b)))) ∧ Below w.heap.size w w' := by
  have hg0 := hg
  obtain ⟨gu, rfl, hr⟩ := hg
  obtain ⟨p, c, rfl, _⟩ := hr.shape
  obtain ⟨ap, ac, rfl, _⟩ := id hna.shape
  obtain ⟨bp, bc, rfl, _⟩ := id hnb.shape
  obtain ⟨W0, hW0⟩ : ∃ W0, W0 = w.alloc (.cells #[.slice p g.length c] 28) := ⟨_, rfl⟩
  have hb0 : Below w.heap.size w W0 := by rw [hW0]; exact below_alloc _ _
  have HB0 := Lib.hid hb0
  have HBG : Hid (Box W0 w.heap.size 28 (.slice p g.length c)) := Lib.hid (by rw [hW0]; exact Box.new _ _ _)
  have HG := Lib.hid (hg0.below hb0)
  have HAN := Lib.hid (hna.below hb0)
  have HBN := Lib.hid (hnb.below hb0)
  have SZ0 := Lib.hid (show W0.heap.size = w.heap.size + 1 by rw [hW0, size_alloc])
  have HBL := Lib.hid hbl
  have hnl := natInts_length a
  have hnl2 := natInts_length b
  have hal : a.length ≤ 1000000000 := by
    obtain ⟨_, _, _, _, _, h, _⟩ := id hna.shape
    rw [hnl] at h; exact h
  rw [hnl, hnl2]
  rw [hnl] at HAN
  rw [hnl2] at HBN
  clear hg0 hb0 hr hna hnb hbl hnl hnl2
  have TN : Hid (TouchP g (natInts a) (natInts b) ↔ ∃ x ∈ a, x ∈ b ∨ ∃ t ∈ b, (x : Int) ∈ row g t) := Lib.hid touch_nat
  go_enter Tryd.func135, Tryd.ntmps135
  go_upto_region 1 with fail
  rw [← hW0]
  clear hW0
  go_wp2_with fail
  go_loopw [7] (fun kv wr => ∃ i : Nat, i ≤ a.length ∧ kv = .int .i64 i ∧ Hid (∀ j (h : j < a.length), j < i → ¬ (a[j] ∈ b ∨ ∃ t ∈ b, ((a[j] : Nat) : Int) ∈ row g t)) ∧ Below W0.heap.size W0 wr) (fun kv _ => a.length - (intOf kv).toNat)
  case atStart => exact ⟨0, Nat.zero_le _, rfl, Lib.hid (fun j _ hj => absurd hj (Nat.not_lt_zero _)), Below.refl _ _⟩
  case round =>
    obtain ⟨i, hi, rfl, HNO, hb⟩ := hrel
    have HB := Lib.hid hb
    by_cases hlt : i < a.length
    · have hcg := hb.at (by have := SZ0.out; omega) HBG.out.cell
      obtain ⟨qb, qo, rfl, hq⟩ := (HAN.out.below hb).get (k := i) (by rw [natInts_length]; exact hlt)
      obtain ⟨x, hx⟩ : ∃ x, x = a[i] := ⟨_, rfl⟩
      rw [natInts_atC hlt, ← hx] at hq
      have HX := Lib.hid hx
      have HLT := Lib.hid (show x ∈ a by rw [hx]; exact List.getElem_mem hlt)
      clear hx hb
      by_cases hxb : x ∈ b
      · have hd := Lib.hid (dec_true (show (x : Int) ∈ natInts b from mem_natInts.2 ⟨x, hxb, rfl⟩))
        have HY := Lib.hid (dec_true (TN.out.2 ⟨x, HLT.out, .inl hxb⟩))
        clear hxb
        go_upto_region 4 with fail
        go_cut [29] (fun s29 wx => s29 = .bool true ∧ Below wr.heap.size wr wx)
        case first =>
          refine wp_region_held_drew (S := fun w' => w'.cell? ⟨w.heap.size, 0, none⟩ = some (.slice p g.length c) ∧ w'.cell? ⟨qb, qo + i, none⟩ = some (.int .i64 (x : Int))) (by kernel_rfl) ?_ (fun hHeld => ?_)
          · exact ⟨hcg, hq⟩
          refine wpAnyH_take (i := 0) (v := .slice bp b.length bc) rfl (by kernel_rfl) (by kernel_rfl) (by kernel_rfl) (fun _ _ _ h => h) (Or.inl ⟨by rfl, ?_⟩) (by assumption) ?_
          · intro wz hSw; (try dsimp only at hSw); go_simp; try rfl
          try simp only [Act.put, List.getElem_toArray, List.getElem_cons_succ, List.getElem_cons_zero, List.setIfInBounds_toArray, List.set_cons_zero, List.set_cons_succ]
          refine wpAnyH_take (i := 1) (v := .slice (some ⟨qb, qo, none⟩) a.length ac) rfl (by kernel_rfl) (by kernel_rfl) (by kernel_rfl) (fun _ _ _ h => h) (Or.inl ⟨by rfl, ?_⟩) (by assumption) ?_
          · intro wz hSw; (try dsimp only at hSw); go_simp; try rfl
          try simp only [Act.put, List.getElem_toArray, List.getElem_cons_succ, List.getElem_cons_zero, List.setIfInBounds_toArray, List.set_cons_zero, List.set_cons_succ]
          refine wpAnyH_take (i := 2) (v := .int .i64 i) rfl (by kernel_rfl) (by kernel_rfl) (by kernel_rfl) (fun _ _ _ h => h) (Or.inl ⟨by rfl, ?_⟩) (by assumption) ?_
          · intro wz hSw; (try dsimp only at hSw); go_simp; try rfl
          try simp only [Act.put, List.getElem_toArray, List.getElem_cons_succ, List.getElem_cons_zero, List.setIfInBounds_toArray, List.set_cons_zero, List.set_cons_succ]
          refine wpAnyH_take (i := 3) (v := .pointer (some ⟨qb, qo + i, none⟩)) rfl (by kernel_rfl) (by kernel_rfl) (by kernel_rfl) (fun _ _ _ h => h) (Or.inl ⟨by rfl, ?_⟩) (by assumption) ?_
          · intro wz hSw; (try dsimp only at hSw); go_simp; try rfl
          try simp only [Act.put, List.getElem_toArray, List.getElem_cons_succ, List.getElem_cons_zero, List.setIfInBounds_toArray, List.set_cons_zero, List.set_cons_succ]
          refine wpAnyH_take (i := 4) (v := .int .i64 (x : Int)) rfl (by kernel_rfl) (by kernel_rfl) (by kernel_rfl) (fun _ _ _ h => h) (Or.inl ⟨by rfl, ?_⟩) (by assumption) ?_
          · intro wz hSw; (try dsimp only at hSw); go_simp; try rfl
          try simp only [Act.put, List.getElem_toArray, List.getElem_cons_succ, List.getElem_cons_zero, List.setIfInBounds_toArray, List.set_cons_zero, List.set_cons_succ]
          refine wpAnyH_ready (rs := [5]) (by kernel_rfl) (by simp) ?_
          refine AllReadyH.cons rfl (fun K hK => ?_) AllReadyH.nil
          go_simp
          go_at_call 72
          refine (l1Has_any _ (natInts b) x _ (HBN.out.below (HB.out.trans (below_dN (Below.refl _ _) 1)))).mono ?_
          rintro e w4 ⟨he4, hw4⟩
          rw [hd.out] at he4
          subst he4
          subst hw4
          refine hK.out _ _ ?_ (fun hHeld => ?_)
          · exact ⟨hcg, hq⟩
          clear hK K
          try simp only [Act.put, List.getElem_toArray, List.getElem_cons_succ, List.getElem_cons_zero, List.setIfInBounds_toArray, List.set_cons_zero, List.set_cons_succ]
          refine wpAnyH_take (i := 6) (v := .bool true) rfl (by kernel_rfl) (by kernel_rfl) (by kernel_rfl) (fun _ _ _ h => h) (Or.inl ⟨by rfl, ?_⟩) (by assumption) ?_
          · intro wz hSw; (try dsimp only at hSw); go_simp; try rfl
          try simp only [Act.put, List.getElem_toArray, List.getElem_cons_succ, List.getElem_cons_zero, List.setIfInBounds_toArray, List.set_cons_zero, List.set_cons_succ]
          refine wpAnyH_take (i := 7) (v := undef) rfl (by kernel_rfl) (by kernel_rfl) (by kernel_rfl) (fun _ _ _ h => h) (Or.inr ⟨by kernel_rfl, rfl⟩) (by assumption) ?_
          try simp only [Act.put, List.getElem_toArray, List.getElem_cons_succ, List.getElem_cons_zero, List.setIfInBounds_toArray, List.set_cons_zero, List.set_cons_succ]
          refine wpAnyH_take (i := 8) (v := undef) rfl (by kernel_rfl) (by kernel_rfl) (by kernel_rfl) (fun _ _ _ h => h) (Or.inr ⟨by kernel_rfl, rfl⟩) (by assumption) ?_
          try simp only [Act.put, List.getElem_toArray, List.getElem_cons_succ, List.getElem_cons_zero, List.setIfInBounds_toArray, List.set_cons_zero, List.set_cons_succ]
          refine wpAnyH_take (i := 9) (v := undef) rfl (by kernel_rfl) (by kernel_rfl) (by kernel_rfl) (fun _ _ _ h => h) (Or.inr ⟨by kernel_rfl, rfl⟩) (by assumption) ?_
          try simp only [Act.put, List.getElem_toArray, List.getElem_cons_succ, List.getElem_cons_zero, List.setIfInBounds_toArray, List.set_cons_zero, List.set_cons_succ]
          refine wpAnyH_take (i := 10) (v := undef) rfl (by kernel_rfl) (by kernel_rfl) (by kernel_rfl) (fun _ _ _ h => h) (Or.inr ⟨by kernel_rfl, rfl⟩) (by assumption) ?_
          try simp only [Act.put, List.getElem_toArray, List.getElem_cons_succ, List.getElem_cons_zero, List.setIfInBounds_toArray, List.set_cons_zero, List.set_cons_succ]
          refine wpAnyH_take (i := 11) (v := undef) rfl (by kernel_rfl) (by kernel_rfl) (by kernel_rfl) (fun _ _ _ h => h) (Or.inr ⟨by kernel_rfl, rfl⟩) (by assumption) ?_
          try simp only [Act.put, List.getElem_toArray, List.getElem_cons_succ, List.getElem_cons_zero, List.setIfInBounds_toArray, List.set_cons_zero, List.set_cons_succ]
          refine wpAnyH_take (i := 12) (v := undef) rfl (by kernel_rfl) (by kernel_rfl) (by kernel_rfl) (fun _ _ _ h => h) (Or.inr ⟨by kernel_rfl, rfl⟩) (by assumption) ?_
          try simp only [Act.put, List.getElem_toArray, List.getElem_cons_succ, List.getElem_cons_zero, List.setIfInBounds_toArray, List.set_cons_zero, List.set_cons_succ]
          refine wpAnyH_take (i := 13) (v := undef) rfl (by kernel_rfl) (by kernel_rfl) (by kernel_rfl) (fun _ _ _ h => h) (Or.inr ⟨by kernel_rfl, rfl⟩) (by assumption) ?_
          try simp only [Act.put, List.getElem_toArray, List.getElem_cons_succ, List.getElem_cons_zero, List.setIfInBounds_toArray, List.set_cons_zero, List.set_cons_succ]
          refine wpAnyH_take (i := 14) (v := undef) rfl (by kernel_rfl) (by kernel_rfl) (by kernel_rfl) (fun _ _ _ h => h) (Or.inr ⟨by kernel_rfl, rfl⟩) (by assumption) ?_
          try simp only [Act.put, List.getElem_toArray, List.getElem_cons_succ, List.getElem_cons_zero, List.setIfInBounds_toArray, List.set_cons_zero, List.set_cons_succ]
          refine wpAnyH_take (i := 15) (v := .bool true) rfl (by kernel_rfl) (by kernel_rfl) (by kernel_rfl) (fun _ _ _ h => h) (Or.inl ⟨by rfl, ?_⟩) (by assumption) ?_
          · intro wz hSw; (try dsimp only at hSw); go_simp; try rfl
          try simp only [Act.put, List.getElem_toArray, List.getElem_cons_succ, List.getElem_cons_zero, List.setIfInBounds_toArray, List.set_cons_zero, List.set_cons_succ]
          refine wpAnyH_done (by kernel_rfl) ?_ _
          go_wp2
          go_meet
          exact ⟨rfl, by first | exact below_dN (Below.refl _ _) _ | exact below_dN (below_dN (Below.refl _ _) 1) _⟩
        case rest =>
        obtain ⟨rfl, hbc⟩ := hcut
        clear hcg hq
        go_wp2_with fail
        go_ret
        exact ⟨by rw [HY.out]; rfl, HB0.out.trans ((HB.out.trans (hbc.mono HB.out.size)).mono HB0.out.size)⟩
      · have hd := Lib.hid (dec_false (show ¬ (x : Int) ∈ natInts b from fun h => by
          obtain ⟨j, hj, e⟩ := mem_natInts.1 h
          exact hxb (show x ∈ b by rw [show x = j by omega]; exact hj)))
        have HXB := Lib.hid hxb
        clear hxb
        go_upto_region 4 with fail
        go_cut [29] (fun s29 wx => ∃ z : Int, s29 = .bool (decide ((0 : Int) < z)) ∧ Hid (0 < z ↔ ∃ t ∈ b, (x : Int) ∈ row g t) ∧ Below wr.heap.size wr wx)
        case first =>
          refine wp_region_held_drew (S := fun w' => w'.cell? ⟨w.heap.size, 0, none⟩ = some (.slice p g.length c) ∧ w'.cell? ⟨qb, qo + i, none⟩ = some (.int .i64 (x : Int))) (by kernel_rfl) ?_ (fun hHeld => ?_)
          · exact ⟨hcg, hq⟩
          refine wpAnyH_take (i := 0) (v := .slice bp b.length bc) rfl (by kernel_rfl) (by kernel_rfl) (by kernel_rfl) (fun _ _ _ h => h) (Or.inl ⟨by rfl, ?_⟩) (by assumption) ?_
          · intro wz hSw; (try dsimp only at hSw); go_simp; try rfl
          try simp only [Act.put, List.getElem_toArray, List.getElem_cons_succ, List.getElem_cons_zero, List.setIfInBounds_toArray, List.set_cons_zero, List.set_cons_succ]
          refine wpAnyH_take (i := 1) (v := .slice (some ⟨qb, qo, none⟩) a.length ac) rfl (by kernel_rfl) (by kernel_rfl) (by kernel_rfl) (fun _ _ _ h => h) (Or.inl ⟨by rfl, ?_⟩) (by assumption) ?_
          · intro wz hSw; (try dsimp only at hSw); go_simp; try rfl
          try simp only [Act.put, List.getElem_toArray, List.getElem_cons_succ, List.getElem_cons_zero, List.setIfInBounds_toArray, List.set_cons_zero, List.set_cons_succ]
          refine wpAnyH_take (i := 2) (v := .int .i64 i) rfl (by kernel_rfl) (by kernel_rfl) (by kernel_rfl) (fun _ _ _ h => h) (Or.inl ⟨by rfl, ?_⟩) (by assumption) ?_
          · intro wz hSw; (try dsimp only at hSw); go_simp; try rfl
          try simp only [Act.put, List.getElem_toArray, List.getElem_cons_succ, List.getElem_cons_zero, List.setIfInBounds_toArray, List.set_cons_zero, List.set_cons_succ]
          refine wpAnyH_take (i := 3) (v := .pointer (some ⟨qb, qo + i, none⟩)) rfl (by kernel_rfl) (by kernel_rfl) (by kernel_rfl) (fun _ _ _ h => h) (Or.inl ⟨by rfl, ?_⟩) (by assumption) ?_
          · intro wz hSw; (try dsimp only at hSw); go_simp; try rfl
          try simp only [Act.put, List.getElem_toArray, List.getElem_cons_succ, List.getElem_cons_zero, List.setIfInBounds_toArray, List.set_cons_zero, List.set_cons_succ]
          refine wpAnyH_take (i := 4) (v := .int .i64 (x : Int)) rfl (by kernel_rfl) (by kernel_rfl) (by kernel_rfl) (fun _ _ _ h => h) (Or.inl ⟨by rfl, ?_⟩) (by assumption) ?_
          · intro wz hSw; (try dsimp only at hSw); go_simp; try rfl
          try simp only [Act.put, List.getElem_toArray, List.getElem_cons_succ, List.getElem_cons_zero, List.setIfInBounds_toArray, List.set_cons_zero, List.set_cons_succ]
          refine wpAnyH_ready (rs := [5]) (by kernel_rfl) (by simp) ?_
          refine AllReadyH.cons rfl (fun K hK => ?_) AllReadyH.nil
          go_simp
          go_at_call 72
          refine (l1Has_any _ (natInts b) x _ (HBN.out.below (HB.out.trans (below_dN (Below.refl _ _) 1)))).mono ?_
          rintro e w4 ⟨he4, hw4⟩
          rw [hd.out] at he4
          subst he4
          subst hw4
          refine hK.out _ _ ?_ (fun hHeld => ?_)
          · exact ⟨hcg, hq⟩
          clear hK K
          try simp only [Act.put, List.getElem_toArray, List.getElem_cons_succ, List.getElem_cons_zero, List.setIfInBounds_toArray, List.set_cons_zero, List.set_cons_succ]
          refine wpAnyH_take (i := 6) (v := .bool false) rfl (by kernel_rfl) (by kernel_rfl) (by kernel_rfl) (fun _ _ _ h => h) (Or.inl ⟨by rfl, ?_⟩) (by assumption) ?_
          · intro wz hSw; (try dsimp only at hSw); go_simp; try rfl
          try simp only [Act.put, List.getElem_toArray, List.getElem_cons_succ, List.getElem_cons_zero, List.setIfInBounds_toArray, List.set_cons_zero, List.set_cons_succ]
          refine wpAnyH_take (i := 7) (v := .agg #[.slice p g.length c]) rfl (by kernel_rfl) (by kernel_rfl) (by kernel_rfl) (fun _ _ _ h => h) (Or.inl ⟨by rfl, ?_⟩) (by assumption) ?_
          · intro wz hSw; (try dsimp only at hSw); go_simp; try rfl
          try simp only [Act.put, List.getElem_toArray, List.getElem_cons_succ, List.getElem_cons_zero, List.setIfInBounds_toArray, List.set_cons_zero, List.set_cons_succ]
          refine wpAnyH_take (i := 8) (v := .slice bp b.length bc) rfl (by kernel_rfl) (by kernel_rfl) (by kernel_rfl) (fun _ _ _ h => h) (Or.inl ⟨by rfl, ?_⟩) (by assumption) ?_
          · intro wz hSw; (try dsimp only at hSw); go_simp; try rfl
          try simp only [Act.put, List.getElem_toArray, List.getElem_cons_succ, List.getElem_cons_zero, List.setIfInBounds_toArray, List.set_cons_zero, List.set_cons_succ]
          refine wpAnyH_take (i := 9) (v := .slice (some ⟨qb, qo, none⟩) a.length ac) rfl (by kernel_rfl) (by kernel_rfl) (by kernel_rfl) (fun _ _ _ h => h) (Or.inl ⟨by rfl, ?_⟩) (by assumption) ?_
          · intro wz hSw; (try dsimp only at hSw); go_simp; try rfl
          try simp only [Act.put, List.getElem_toArray, List.getElem_cons_succ, List.getElem_cons_zero, List.setIfInBounds_toArray, List.set_cons_zero, List.set_cons_succ]
          refine wpAnyH_take (i := 10) (v := .int .i64 i) rfl (by kernel_rfl) (by kernel_rfl) (by kernel_rfl) (fun _ _ _ h => h) (Or.inl ⟨by rfl, ?_⟩) (by assumption) ?_
          · intro wz hSw; (try dsimp only at hSw); go_simp; try rfl
          try simp only [Act.put, List.getElem_toArray, List.getElem_cons_succ, List.getElem_cons_zero, List.setIfInBounds_toArray, List.set_cons_zero, List.set_cons_succ]
          refine wpAnyH_take (i := 11) (v := .pointer (some ⟨qb, qo + i, none⟩)) rfl (by kernel_rfl) (by kernel_rfl) (by kernel_rfl) (fun _ _ _ h => h) (Or.inl ⟨by rfl, ?_⟩) (by assumption) ?_
          · intro wz hSw; (try dsimp only at hSw); go_simp; try rfl
          try simp only [Act.put, List.getElem_toArray, List.getElem_cons_succ, List.getElem_cons_zero, List.setIfInBounds_toArray, List.set_cons_zero, List.set_cons_succ]
          refine wpAnyH_take (i := 12) (v := .int .i64 (x : Int)) rfl (by kernel_rfl) (by kernel_rfl) (by kernel_rfl) (fun _ _ _ h => h) (Or.inl ⟨by rfl, ?_⟩) (by assumption) ?_
          · intro wz hSw; (try dsimp only at hSw); go_simp; try rfl
          try simp only [Act.put, List.getElem_toArray, List.getElem_cons_succ, List.getElem_cons_zero, List.setIfInBounds_toArray, List.set_cons_zero, List.set_cons_succ]
          refine wpAnyH_ready (rs := [13]) (by kernel_rfl) (by simp) ?_
          refine AllReadyH.cons rfl (fun K hK => ?_) AllReadyH.nil
          go_simp
          go_at_call 156
          refine (l8Near_any _ _ _ g b x rfl hbn16 HBL.out _ (HG.out.below (HB.out.trans (below_dN (Below.refl _ _) 1))) (HBN.out.below (HB.out.trans (below_dN (Below.refl _ _) 1)))).mono ?_
          rintro e w5 ⟨z, he5, hz5, hb5⟩
          subst he5
          have HZ := Lib.hid hz5
          have hb5x : Below wr.heap.size wr w5 := (below_dN (Below.refl _ _) 1).trans hb5
          clear hz5
          refine hK.out _ _ ?_ (fun hHeld => ?_)
          · exact ⟨hb5x.at' hcg, hb5x.at' hq⟩
          clear hK K
          try simp only [Act.put, List.getElem_toArray, List.getElem_cons_succ, List.getElem_cons_zero, List.setIfInBounds_toArray, List.set_cons_zero, List.set_cons_succ]
          refine wpAnyH_take (i := 14) (v := .bool (decide ((0 : Int) < z))) rfl (by kernel_rfl) (by kernel_rfl) (by kernel_rfl) (fun _ _ _ h => h) (Or.inl ⟨by rfl, ?_⟩) (by assumption) ?_
          · intro wz hSw; (try dsimp only at hSw); go_simp; try rfl
          try simp only [Act.put, List.getElem_toArray, List.getElem_cons_succ, List.getElem_cons_zero, List.setIfInBounds_toArray, List.set_cons_zero, List.set_cons_succ]
          refine wpAnyH_take (i := 15) (v := .bool (decide ((0 : Int) < z))) rfl (by kernel_rfl) (by kernel_rfl) (by kernel_rfl) (fun _ _ _ h => h) (Or.inl ⟨by rfl, ?_⟩) (by assumption) ?_
          · intro wz hSw; (try dsimp only at hSw); go_simp; try rfl
          try simp only [Act.put, List.getElem_toArray, List.getElem_cons_succ, List.getElem_cons_zero, List.setIfInBounds_toArray, List.set_cons_zero, List.set_cons_succ]
          refine wpAnyH_done (by kernel_rfl) ?_ _
          go_wp2
          go_meet
          exact ⟨z, rfl, HZ, hb5x⟩
        case rest =>
        obtain ⟨z, rfl, HZ, hbc⟩ := hcut
        have HBC := Lib.hid (HB.out.trans (hbc.mono HB.out.size))
        clear hcg hq hbc
        by_cases hz : (0 : Int) < z
        · have HY := Lib.hid (dec_true (TN.out.2 ⟨x, HLT.out, .inr (HZ.out.1 hz)⟩))
          go_wp2_with fail
          go_ret
          exact ⟨by rw [HY.out]; rfl, HB0.out.trans (HBC.out.mono HB0.out.size)⟩
        · go_wp2_with fail
          go_roundw
          case rel => exact ⟨i + 1, by omega, by go_num, Lib.hid (fun j h hj => by
            by_cases e : j < i
            · exact HNO.out j h e
            · obtain rfl : j = i := by omega
              rw [← HX.out]
              rintro (k | k)
              · exact HXB.out k
              · exact hz (HZ.out.2 k)), HBC.out⟩
          case measure => simp [intOf]; omega
    · obtain rfl : i = a.length := by omega
      have HN := Lib.hid (dec_false (fun h => by
        obtain ⟨x, hx, h2⟩ := TN.out.1 h
        obtain ⟨j, hj, rfl⟩ := List.getElem_of_mem hx
        exact HNO.out j hj hj h2))
      clear hb
      go_wp2_with fail
      go_ret
      exact ⟨by rw [HN.out]; rfl, HB0.out.trans (HB.out.mono HB0.out.size)⟩

theorem setIn_len16 {g : List (List Int)} (hg : GOk g) {s : List Int} (h : SetIn g.length s) : s.length ≤ 16 := by
  have h1 := setIn_length (by omega) h
  have := hg.le
  omega

end Go.Proofs.YtiooindlpinjhaaDoor
