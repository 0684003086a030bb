/- Walks: a drawn set of a graph, the rest of a set, sets as bits, is a set stable? -/
import Derived.Test.YtkppbmfliejnmaaDoorSnQ30
import Derived.Test.YtkppbmfliejnmaaDoorSnQ31
import Derived.Test.YtkppbmfliejnmaaDoorSnQ35
import Derived.Test.YtkppbmfliejnmaaDoorSnQ12
import Derived.Test.YtkppbmfliejnmaaDoorSnQ18
import Derived.Test.YtkppbmfliejnmaaDoorSnQ37
import Derived.Test.YtkppbmfliejnmaaDoorSnQ7
import Derived.Test.YtkppbmfliejnmaaDoorSnQ8
import Derived.Test.YtkppbmfliejnmaaDoorSnQ3
import Derived.Deep.RegionHeld3
import Derived.Deep.DeepCutAuto
import Derived.Test.YtkppbmfliejnmaaDoorSnQ14
import Derived.Test.YtkppbmfliejnmaaDoorSnQ6
import Derived.Test.YtkppbmfliejnmaaDoorSnQ16
namespace Go.Proofs.YtkppbmfliejnmaaDoor
open Go.RowKit

set_option maxRecDepth 100000 in
set_option maxHeartbeats 4000000 in
theorem w6Set_any (w0 : World) (db : Nat) (bs : List Int) (p : Option Addr) (n c : Nat) (hn : n ≤ 1000) (w : World) (hd : Dice w0 w db bs) (hdb : db < w.heap.size) :
    Calls Tryd.prog 15 #[.pointer (some ⟨db, 0, none⟩), .agg #[.slice p n c]] w fun e w' => ∃ (ov : Value) (o : List Nat), e = .returned ov ∧ o.length ≤ n ∧ o.Pairwise (· < ·) ∧ (∀ x ∈ o, x < n) ∧ DrwI w0 w w' db bs ov (natInts o) := by
  obtain ⟨W0, hW0⟩ : ∃ W0, W0 = w.alloc (.cells #[.slice p n c] 29) := ⟨_, rfl⟩
  have hb0 : Below w.heap.size w W0 := by rw [hW0]; exact below_alloc _ _
  have sz0 : W0.heap.size = w.heap.size + 1 := by rw [hW0, size_alloc]
  have hbx0 : Box W0 w.heap.size 29 (.slice p n c) := by rw [hW0]; exact Box.new _ _ _
  have START : Hid (DrwI w0 w (W0.alloc (.cells #[] 2)) db bs (.slice (some ⟨W0.heap.size, 0, none⟩) 0 0) (natInts [])) := Lib.hid ⟨(hd.keep hb0).keep (below_alloc _ _), grown_trans (grown_of_below hb0 _) (grown_of_below (below_alloc _ _) _), ownsRow_base (ownsRow_empty W0 2 1) (by omega), hdb⟩
  have STBX : Hid (Box (W0.alloc (.cells #[] 2)) w.heap.size 29 (.slice p n c)) := Lib.hid (hbx0.alloc _)
  rw [sz0] at START
  clear hd hdb hb0 hbx0
  go_enter Tryd.func15, Tryd.ntmps15
  go_upto_region 1 with fail
  rw [← hW0]
  clear hW0
  go_wp2_with fail
  go_loopw [5, 6] (fun ov vv wr => ∃ (v : Nat) (o : List Nat), v ≤ n ∧ vv = .int .i64 (v : Int) ∧ o.length ≤ v ∧ Hid (o.Pairwise (· < ·) ∧ ∀ x ∈ o, x < v) ∧ Hid (DrwI w0 w wr db bs ov (natInts o)) ∧ Hid (Box wr w.heap.size 29 (.slice p n c))) (fun _ vv _ => n - (intOf vv).toNat)
  case atStart => exact ⟨0, [], Nat.zero_le _, rfl, Nat.le_refl _, Lib.hid ⟨by simp, by simp⟩, by first | exact START | (rw [sz0]; exact START), STBX⟩
  case round =>
    clear START STBX sz0
    obtain ⟨v, o, hv, rfl, hol, HO, HI, HX⟩ := hrel
    have cx := HX.out.cell
    by_cases hlt : v < n
    · have hvi : (v : Int) < (n : Int) := by omega
      go_upto_if 17 with (go_at_call 28; refine (below_any w0 db bs 2 _ rfl (by omega) (by omega) _ HI.out.dice).mono ?_; rintro e w2 ⟨k, rfl, hk, hd2, hg2⟩; have HI2 := Lib.hid (HI.out.throw hd2 hg2); have HX2 := Lib.hid (HX.out.diced HI.out.dice hg2 (by decide)); clear hd2 hg2)
      by_cases hk0 : k = 0
      · have hown := HI2.out.own
        rw [natInts_length] at hown
        have hlow := HI2.out.gr.size
        have hke : ((k : Int) == 0) = true := by simp [hk0]
        clear hk0
        go_wp2_with (at_builtin; refine wpList_app1 ty_i64 rfl rfl rfl hown rfl rfl (by omega) hlow ?_; intro v7 w7 hown7 hg7 _)
        have HX7 := Lib.hid (HX2.out.grown hg7 (box_ne_own HX2.out hown (by decide)))
        go_roundw
        case rel =>
          refine ⟨v + 1, o ++ [v], by omega, by go_num, by simp; omega, Lib.hid ⟨?_, ?_⟩, Lib.hid ?_, HX7⟩
          · rw [List.pairwise_append]
            exact ⟨HO.out.1, by simp, fun a ha b hb => by rw [List.mem_singleton] at hb; have := HO.out.2 a ha; omega⟩
          · intro x hx
            rcases List.mem_append.1 hx with h | h
            · have := HO.out.2 x h; omega
            · rw [List.mem_singleton] at h; omega
          · have := HI2.out.app (z := (v : Int)) (by rw [natInts_length]; exact hown7) hg7
            simpa [natInts] using this
        case measure => simp [intOf]; omega
      · have hke : ((k : Int) == 0) = false := beq_eq_false_iff_ne.2 (by omega)
        clear hk0
        go_wp2_with fail
        go_roundw
        case rel => exact ⟨v + 1, o, by omega, by go_num, by omega, Lib.hid ⟨HO.out.1, fun x hx => by have := HO.out.2 x hx; omega⟩, HI2, HX2⟩
        case measure => simp [intOf]; omega
    · obtain rfl : v = n := by omega
      go_wp2_with fail
      go_ret
      exact ⟨_, o, rfl, hol, HO.out.1, HO.out.2, HI.out⟩

/-- What is not in a list, below v. -/
def rstN (xs : List Int) (v : Nat) : List Nat := (List.range v).filter fun x => decide ((x : Int) ∉ xs)
theorem rstN_yes {xs : List Int} {v : Nat} (h : (v : Int) ∉ xs) : rstN xs (v + 1) = rstN xs v ++ [v] := by
  unfold rstN; rw [List.range_succ, List.filter_append]; simp [h]
theorem rstN_no {xs : List Int} {v : Nat} (h : (v : Int) ∈ xs) : rstN xs (v + 1) = rstN xs v := by
  unfold rstN; rw [List.range_succ, List.filter_append]; simp [h]
theorem rstN_len (xs : List Int) (v : Nat) : (rstN xs v).length ≤ v := by
  have := List.length_filter_le (fun x : Nat => decide ((x : Int) ∉ xs)) (List.range v)
  rwa [List.length_range] at this

set_option maxRecDepth 100000 in
set_option maxHeartbeats 4000000 in
theorem w6Rest_any (p : Option Addr) (n c : Nat) (lv : Value) (xs : List Int) (hn : n ≤ 1000) (w : World) (hx : Nums w 2 .i64 lv xs) :
    Calls Tryd.prog 21 #[.agg #[.slice p n c], lv] w fun e w' => ∃ ov, e = .returned ov ∧ w'.ownsRow w.heap.size 2 1 ov (rstN xs n).length ((natInts (rstN xs n)).map (Value.int .i64)) ∧ Below w.heap.size w w' := by
  obtain ⟨lp, lc, rfl, _⟩ := id hx.shape
  obtain ⟨W0, hW0⟩ : ∃ W0, W0 = w.alloc (.cells #[.slice p n c] 29) := ⟨_, rfl⟩
  have hb0 : Below w.heap.size w W0 := by rw [hW0]; exact below_alloc _ _
  have sz0 : W0.heap.size = w.heap.size + 1 := by rw [hW0, size_alloc]
  have HBX : Hid (Box W0 w.heap.size 29 (.slice p n c)) := Lib.hid (by rw [hW0]; exact Box.new _ _ _)
  have HX := Lib.hid (hx.below hb0)
  have HB0 := Lib.hid hb0
  have START := Lib.hid (ownsRow_empty W0 2 1)
  have STB := Lib.hid (below_alloc W0 (.cells #[] 2))
  clear hx hb0
  go_enter Tryd.func21, Tryd.ntmps21
  go_upto_region 1 with fail
  rw [← hW0]
  clear hW0
  go_wp2_with fail
  go_loopw [5, 6] (fun ov vv wr => ∃ (v : Nat), v ≤ n ∧ vv = .int .i64 (v : Int) ∧ Hid (wr.ownsRow W0.heap.size 2 1 ov (rstN xs v).length ((natInts (rstN xs v)).map (Value.int .i64))) ∧ Hid (Below W0.heap.size W0 wr)) (fun _ vv _ => n - (intOf vv).toNat)
  case atStart => exact ⟨0, Nat.zero_le _, rfl, by rw [← sz0]; exact START, STB⟩
  case round =>
    clear START STB sz0
    obtain ⟨v, hv, rfl, HO, HB⟩ := hrel
    have cx := HB.out.at' HBX.out.cell
    have hlen := rstN_len xs v
    by_cases hlt : v < n
    · have hvi : (v : Int) < (n : Int) := by omega
      have hown := HO.out
      have hsz := HB.out.size
      by_cases hm : (v : Int) ∈ xs
      · have HD := Lib.hid (dec_true hm)
        have HS := Lib.hid (rstN_no hm)
        clear hm
        go_wp2_with (go_at_call 34; refine (w6Has_any _ xs _ _ (HX.out.below HB.out)).mono ?_; rintro e w2 ⟨he, rfl⟩; rw [HD.out] at he; subst he)
        go_roundw
        case rel => exact ⟨v + 1, by omega, by go_num, Lib.hid (by rw [HS.out]; exact HO.out), HB⟩
        case measure => simp [intOf]; omega
      · have HD := Lib.hid (dec_false hm)
        have HS := Lib.hid (rstN_yes hm)
        clear hm
        go_wp2_with (first
          | (go_at_call 34; refine (w6Has_any _ xs _ _ (HX.out.below HB.out)).mono ?_; rintro e w2 ⟨he, rfl⟩; rw [HD.out] at he; subst he)
          | (at_builtin; refine wpList_app1 ty_i64 rfl rfl rfl hown rfl rfl (by omega) hsz ?_; intro v7 w7 hown7 hg7 _))
        have HO7 := Lib.hid hown7
        have HB7 := Lib.hid (below_grown HB.out hown hg7 (Nat.le_refl _) hsz)
        go_roundw
        case rel => exact ⟨v + 1, by omega, by go_num, Lib.hid (by rw [HS.out, show natInts (rstN xs v ++ [v]) = natInts (rstN xs v) ++ [(v : Int)] by simp [natInts], List.map_append, List.length_append]; exact HO7.out), HB7⟩
        case measure => simp [intOf]; omega
    · obtain rfl : v = n := by omega
      go_wp2_with fail
      go_ret
      exact ⟨_, rfl, ownsRow_base HO.out HB0.out.size, HB0.out.trans (HB.out.mono HB0.out.size)⟩

set_option maxRecDepth 100000 in
set_option maxHeartbeats 2000000 in
theorem l25Mask_any (v : Value) (xs : List Int) (hr : ∀ x ∈ xs, 0 ≤ x ∧ x < 16) (w : World) (hx : Nums w 2 .i64 v xs) :
    Calls Tryd.prog 102 #[v] w fun e w' => e = .returned (.int .i64 ((mask xs : Nat) : Int)) ∧ w = w' := by
  obtain ⟨p, c, rfl, _⟩ := id hx.shape
  have HN := Lib.hid hx
  have HIN := Lib.hid hr
  clear hx hr
  go_enter Tryd.func102, Tryd.ntmps102
  go_wp2
  go_loop [3, 4] (fun m t => ∃ (a j : Nat), m = .int .i64 a ∧ t = .int .i64 j ∧ j ≤ xs.length ∧ Hid (a = mask (xs.take j))) (fun _ t => xs.length - (intOf t).toNat)
  case atStart => exact ⟨0, 0, rfl, rfl, Nat.zero_le _, Lib.hid (by simp [mask])⟩
  case round =>
    obtain ⟨a, j, rfl, rfl, hj, HA⟩ := hrel
    by_cases hjl : j < xs.length
    · obtain ⟨rb, ro, rfl, hc⟩ := HN.out.get hjl
      have hxx := HIN.out _ (List.getElem_mem hjl)
      obtain ⟨x, hx⟩ : ∃ x : Nat, xs[j] = (x : Int) := ⟨(xs[j]).toNat, by omega⟩
      have hts := Lib.hid (take_snoc xs j hjl)
      rw [hx] at hc hxx
      have hx16 : x < 16 := by omega
      have hwp := wrap_pow x (by omega)
      have ha16 : a < 65536 := by rw [HA.out]; exact mask_take_lt16 HIN.out j
      have hp16 := pow_lt16 x hx16
      obtain ⟨q, hq⟩ : ∃ q, q = 2 ^ x := ⟨_, rfl⟩
      rw [← hq] at hwp hp16
      have hor := i64_or_nat a q (Nat.lt_trans ha16 (by decide)) (Nat.lt_trans hp16 (by decide))
      have HM : Hid (a ||| q = mask (xs.take (j + 1))) := Lib.hid (by rw [hts.out, mask_snoc, ← HA.out, hx, hq]; rfl)
      generalize a ||| q = r at hor HM
      have HQ := Lib.hid hq
      clear hx hq
      go_wp2
      go_round
      case rel => exact ⟨r, j + 1, rfl, by go_num, by omega, HM⟩
      case measure => simp [intOf]; omega
    · obtain rfl : j = xs.length := by omega
      rw [List.take_length] at HA
      go_wp2
      go_ret
      exact ⟨by have h := HA.out; subst h; rfl, rfl⟩

/-- No vertex of a set of bits has a neighbour in it. -/
def StbB (a : List Nat) (b : Nat) : Prop := ∀ v, v < a.length → b.testBit v = true → a.getD v 0 &&& b = 0

set_option maxRecDepth 100000 in
set_option maxHeartbeats 2000000 in
theorem l25Stable_any (p : Option Addr) (c : Nat) (a : List Nat) (b : Nat) (hal : a.length ≤ 16) (ha : ∀ x ∈ a, x < 65536) (hb : b < 65536) (w : World) (hx : Sl w 2 (.slice p a.length c) a.length (a.map i64v)) :
    Calls Tryd.prog 100 #[.slice p a.length c, .int .i64 (b : Int)] w fun e w' => e = .returned (.bool (dec (StbB a b))) ∧ w = w' := by
  have HX := Lib.hid hx
  have HIN := Lib.hid ha
  clear hx ha
  go_enter Tryd.func100, Tryd.ntmps100
  go_wp2
  go_loop [5] (fun t => ∃ j : Nat, t = .int .i64 j ∧ j ≤ a.length ∧ Hid (∀ v, v < j → b.testBit v = true → a.getD v 0 &&& b = 0)) (fun t => a.length - (intOf t).toNat)
  case atStart => exact ⟨0, rfl, Nat.zero_le _, Lib.hid fun v h => absurd h (Nat.not_lt_zero _)⟩
  case round =>
    obtain ⟨j, rfl, hj, HA⟩ := hrel
    by_cases hjl : j < a.length
    · obtain ⟨qb, qo, rfl, hc⟩ := i64_cell HX.out hjl
      have hx16 := HIN.out _ (List.getElem_mem hjl)
      have HG : Hid (a.getD j 0 = a[j]) := Lib.hid (by rw [List.getD_eq_getElem?_getD, List.getElem?_eq_getElem hjl]; rfl)
      generalize a[j] = x at hc hx16 HG
      have hbit := shrB_bit b j hb
      have hand := i64_and_nat x b (by omega) (by omega)
      have hj32 : j < 64 := by omega
      cases ht : b.testBit j
      · rw [ht] at hbit
        have HT := Lib.hid ht
        clear ht hand
        go_wp2
        go_round
        case rel => exact ⟨j + 1, by go_num, by omega, Lib.hid fun v hv hv2 => by
          by_cases e : v < j
          · exact HA.out v e hv2
          · obtain rfl : v = j := by omega
            rw [HT.out] at hv2; cases hv2⟩
        case measure => simp [intOf]; omega
      · rw [ht] at hbit
        have HT := Lib.hid ht
        clear ht
        by_cases h0 : x &&& b = 0
        · have H0 := Lib.hid h0
          rw [h0] at hand
          clear h0
          go_wp2
          go_round
          case rel => exact ⟨j + 1, by go_num, by omega, Lib.hid fun v hv hv2 => by
            by_cases e : v < j
            · exact HA.out v e hv2
            · obtain rfl : v = j := by omega
              rw [HG.out]; exact H0.out⟩
          case measure => simp [intOf]; omega
        · have HNE : Hid (¬ a.getD j 0 &&& b = 0) := Lib.hid (by rw [HG.out]; exact h0)
          have HJ := Lib.hid hjl
          have hne : (((x &&& b : Nat) : Int) != 0) = true := bne_iff_ne.2 (by omega)
          generalize x &&& b = y at hand hne h0
          clear h0
          go_wp2
          go_ret
          exact ⟨ret_bool (false_dec fun k => HNE.out (k j HJ.out HT.out)), rfl⟩
    · obtain rfl : j = a.length := by omega
      go_wp2
      go_ret
      exact ⟨ret_bool (true_dec HA.out), rfl⟩

/-- A set without neighbours in it. -/
def StbS (g : List (List Int)) (s : List Int) : Prop := GOk g ∧ SetIn g.length s ∧ StbB (netL g) (mask s)

set_option maxRecDepth 100000 in
set_option maxHeartbeats 2000000 in
theorem specStableIn_any (v lv : Value) (g : List (List Int)) (s : List Int) (hgl : g.length ≤ 1000000000) (w : World) (hg : Gr w v g) (hn : Nums w 2 .i64 lv s) :
    Calls Tryd.prog 23 #[v, lv] w fun e w' => e = .returned (.bool (dec (StbS g s))) ∧ Below w.heap.size w w' := by
  have hg0 := hg
  obtain ⟨u, rfl, hr⟩ := hg
  obtain ⟨p, c, rfl, _⟩ := hr.shape
  obtain ⟨lp, lc, rfl, _⟩ := id hn.shape
  obtain ⟨W0, hW0⟩ : ∃ W0, W0 = w.alloc (.cells #[.slice p g.length c] 29) := ⟨_, rfl⟩
  have hb0 : Below w.heap.size w W0 := by rw [hW0]; exact below_alloc _ _
  have HBX : Hid (Box W0 w.heap.size 29 (.slice p g.length c)) := Lib.hid (by rw [hW0]; exact Box.new _ _ _)
  have HG := Lib.hid (hg0.below hb0)
  have HN := Lib.hid (hn.below hb0)
  have HB0 := Lib.hid hb0
  have c0 := HBX.out.cell
  clear hr hg0 hn hb0
  by_cases hok : GOk g
  case neg =>
    have HD := Lib.hid (dec_false hok)
    have HNO : Hid (¬ StbS g s) := Lib.hid fun k => hok k.1
    clear hok
    go_enter Tryd.func23, Tryd.ntmps23
    go_upto_region 1 with fail
    rw [← hW0]
    clear hW0
    go_wp2_with (go_at_call 73; refine (specGraphOk_any _ g _ HG.out).mono ?_; rintro e w2 ⟨he, hb2⟩; rw [HD.out] at he; subst he)
    go_ret
    exact ⟨ret_bool (false_dec HNO.out), HB0.out.trans (hb2.mono HB0.out.size)⟩
  have HDG := Lib.hid (dec_true hok)
  by_cases hset : SetIn g.length s
  case neg =>
    have HD : Hid (dec (GOk g ∧ SetIn g.length s) = false) := Lib.hid (dec_false fun k => hset k.2)
    have HNO : Hid (¬ StbS g s) := Lib.hid fun k => hset k.2.1
    clear hok hset
    go_enter Tryd.func23, Tryd.ntmps23
    go_upto_region 1 with fail
    rw [← hW0]
    clear hW0
    go_wp2_with (first
      | (have X := hb2; go_at_call 99; refine (specSetOk_any _ _ g s hgl _ (HG.out.below X) (HN.out.below X)).mono ?_; rintro e w3 ⟨he, hb3⟩; rw [HD.out] at he; subst he)
      | (go_at_call 73; refine (specGraphOk_any _ g _ HG.out).mono ?_; rintro e w2 ⟨he, hb2⟩; rw [HDG.out] at he; subst he; have d0 := hb2.at' c0))
    go_ret
    exact ⟨ret_bool (false_dec HNO.out), HB0.out.trans ((hb2.trans (hb3.mono hb2.size)).mono HB0.out.size)⟩
  have HD : Hid (dec (GOk g ∧ SetIn g.length s) = true) := Lib.hid (dec_true ⟨hok, hset⟩)
  have h16 := hok.le
  have HIN : Hid (∀ x ∈ s, 0 ≤ x ∧ x < 16) := Lib.hid fun x hx => by have := hset.1 x hx; omega
  have hm16 : mask s < 65536 := by
    have := mask_take_lt16 HIN.out s.length
    rwa [List.take_length] at this
  have HIFF : Hid (dec (StbB (netL g) (mask s)) = dec (StbS g s)) := Lib.hid (by
    by_cases h : StbB (netL g) (mask s)
    · rw [dec_true h, dec_true ⟨hok, hset, h⟩]
    · rw [dec_false h, dec_false fun k => h k.2.2])
  have HOK := Lib.hid hok
  have hnl : (netL g).length = g.length := netL_len g
  have HNL := Lib.hid hnl
  obtain ⟨b, hb⟩ : ∃ b, b = mask s := ⟨_, rfl⟩
  have HMB := Lib.hid hb
  rw [← hb] at hm16 HIFF
  have STB : Hid (∀ (wz : World) (q : Option Addr) (d : Nat), Sl wz 2 (.slice q g.length d) g.length ((netL g).map i64v) → Calls Tryd.prog 100 #[.slice q g.length d, .int .i64 (b : Int)] wz fun e w' => e = .returned (.bool (dec (StbS g s))) ∧ wz = w') := Lib.hid fun wz q d h => by
    have := l25Stable_any q d (netL g) b (by rw [HNL.out]; exact h16) (fun x hx => netL_lt HOK.out x hx) hm16 wz (by rw [HNL.out]; exact h)
    rw [HNL.out, HIFF.out] at this
    exact this
  clear hok hset hb hnl
  go_enter Tryd.func23, Tryd.ntmps23
  go_upto_region 1 with fail
  rw [← hW0]
  clear hW0
  go_wp2_with (first
    | (go_at_call 100; refine (STB.out _ _ _ HSL.out).mono ?_; rintro e w6 ⟨rfl, rfl⟩)
    | (have X := HB4; go_at_call 102; refine (l25Mask_any _ s HIN.out _ (HN.out.below HB4.out)).mono ?_; rintro e w5 ⟨he, rfl⟩; rw [← HMB.out] at he; subst he)
    | (have X := HB3; go_at_call 101; refine (l25Bits_any _ g _ (HG.out.below HB3.out) HOK.out).mono ?_; rintro e w4 ⟨u4, rfl, ho4, hb4⟩; obtain ⟨q4, d4, rfl, _⟩ := owns_capL ho4; have HSL := Lib.hid (Sl.of_owns ho4 (by omega)); have HB4 := Lib.hid (HB3.out.trans (hb4.mono HB3.out.size)); clear ho4 hb4)
    | (have X := hb2; go_at_call 99; refine (specSetOk_any _ _ g s hgl _ (HG.out.below X) (HN.out.below X)).mono ?_; rintro e w3 ⟨he, hb3⟩; rw [HD.out] at he; subst he; have HB3 := Lib.hid (hb2.trans (hb3.mono hb2.size)); have e0 := hb3.at' d0)
    | (go_at_call 73; refine (specGraphOk_any _ g _ HG.out).mono ?_; rintro e w2 ⟨he, hb2⟩; rw [HDG.out] at he; subst he; have d0 := hb2.at' c0))
  go_ret
  exact ⟨rfl, HB0.out.trans (HB4.out.mono HB0.out.size)⟩

end Go.Proofs.YtkppbmfliejnmaaDoor

/- Walk: the program says whether a vertex may be pruned so. -/
namespace Go.Proofs.YtkppbmfliejnmaaDoor
open Go.RowKit

theorem netL_lenP (g : List (List Int)) : (netL g).length = g.length := by simp [netL]

/-- What the walk needs of the sets. -/
structure NetI (w : World) (x : Value) (g : List (List Int)) (s : Nat) : Prop where
  ok : LOk g s
  sl : Sl w 70 x g.length ((netL g).map u32v)
theorem NetI.next {w w' : World} {x : Value} {g : List (List Int)} {s : Nat} (h : NetI w x g s) (hb : Below w.heap.size w w') : NetI w' x g s := ⟨h.ok, h.sl.below hb⟩
theorem NetI.get {w : World} {p : Option Addr} {n c : Nat} {g : List (List Int)} {s : Nat} (h : NetI w (.slice p n c) g s) {v : Nat} (hv : v < g.length) :
    ∃ (b o : Nat) (a : Int), p = some ⟨b, o, none⟩ ∧ w.cell? ⟨b, o + v, none⟩ = some (.int .u32 a) ∧ bits BinOp.and IntKind.u32 a (s : Int) = ((mask (row g v) &&& s : Nat) : Int) := by
  have hvl : v < (netL g).length := by rw [netL_lenP]; exact hv
  obtain ⟨b, o, h1, h2⟩ := nets_cell (a := netL g) (by rw [netL_lenP]; exact h.sl) hvl
  have h3 := and_near (netL_lt h.ok.ok) hvl h.ok.s16
  rw [netL_getD] at h3
  exact ⟨b, o, _, h1, h2, h3⟩

theorem goP_aloneN {g : List (List Int)} {s : Nat} (h : LOk g s) {v : Nat} (hv : v < g.length) : GoP g (natInts (bitsOf s)) v (-1) 1 ↔ mask (row g v) &&& s = 0 := by
  rw [alone_mask h hv]
  constructor
  · rintro (⟨_, _, h1⟩ | ⟨h1, _⟩)
    · rwa [Int.toNat_natCast] at h1
    · obtain ⟨i, e, _⟩ := (mem_bitsZ h.s16).1 h1
      omega
  · intro h1
    exact .inl ⟨rfl, rfl, by rw [Int.toNat_natCast]; exact h1⟩
theorem goP_oneN {g : List (List Int)} {L : List Int} {v b : Int} (hb : b ≠ -1) : ¬ GoP g L v b 1 := by
  rintro (⟨_, h, _⟩ | ⟨_, _, h⟩)
  · exact hb h
  · have := condP_kind h; omega
theorem goP_outN {g : List (List Int)} {L : List Int} {v b k : Int} (hk : 2 ≤ k) (hb : ¬ (b ∈ L ∧ b ≠ v)) : ¬ GoP g L v b k := by
  rintro (⟨h, _⟩ | ⟨h1, h2, _⟩)
  · omega
  · exact hb ⟨h1, h2⟩
theorem goP_twoN {g : List (List Int)} {s : Nat} (h : LOk g s) {v b : Nat} (hv : v < g.length) (hb : s.testBit b = true) (hvb : b ≠ v) : GoP g (natInts (bitsOf s)) v b 2 ↔ mask (row g v) &&& s = 2 ^ b := by
  rw [pend_mask h hv hb]
  constructor
  · rintro (⟨h1, _⟩ | ⟨_, _, h1⟩)
    · omega
    · rcases h1 with ⟨_, h1⟩ | ⟨h1, _⟩ | ⟨h1, _⟩
      · simpa only [Int.toNat_natCast] using h1
      · omega
      · omega
  · intro h1
    exact .inr ⟨(mem_bitsI h.s16).2 hb, by omega, .inl ⟨rfl, by simpa only [Int.toNat_natCast] using h1⟩⟩
theorem goP_threeN {g : List (List Int)} {s : Nat} (h : LOk g s) {v b : Nat} (hv : s.testBit v = true) (hb : s.testBit b = true) (hvb : b ≠ v) : GoP g (natInts (bitsOf s)) v b 3 ↔ mask (row g v) &&& s = mask (row g b) &&& s := by
  rw [false_mask h hv hb (fun e => hvb e.symm)]
  constructor
  · rintro (⟨h1, _⟩ | ⟨_, _, h1⟩)
    · omega
    · rcases h1 with ⟨h1, _⟩ | ⟨_, h1⟩ | ⟨h1, _⟩
      · omega
      · simpa only [Int.toNat_natCast] using h1
      · omega
  · intro h1
    exact .inr ⟨(mem_bitsI h.s16).2 hb, by omega, .inr (.inl ⟨rfl, by simpa only [Int.toNat_natCast] using h1⟩)⟩
theorem goP_fourN {g : List (List Int)} {s : Nat} (h : LOk g s) {v b : Nat} (hv : s.testBit v = true) (hb : s.testBit b = true) (hvb : b ≠ v) :
    GoP g (natInts (bitsOf s)) v b 4 ↔ ((mask (row g v) &&& s).testBit b = true ∧ sub (mask (row g v) &&& s) (2 ^ b) = sub (mask (row g b) &&& s) (2 ^ v)) := by
  rw [true_mask h hv hb (fun e => hvb e.symm)]
  constructor
  · rintro (⟨h1, _⟩ | ⟨_, _, h1⟩)
    · omega
    · rcases h1 with ⟨h1, _⟩ | ⟨h1, _⟩ | ⟨_, h1⟩
      · omega
      · omega
      · simpa only [Int.toNat_natCast] using h1
  · intro h1
    exact .inr ⟨(mem_bitsI h.s16).2 hb, by omega, .inr (.inr ⟨rfl, by simpa only [Int.toNat_natCast] using h1⟩)⟩

end Go.Proofs.YtkppbmfliejnmaaDoor

/- Walks: growCliques. -/
namespace Go.Proofs.YtkppbmfliejnmaaDoor
open Go.RowKit

def adG (g : List (List Int)) : Nat → Nat → Bool := fun r j => decide ((j : Int) ∈ row g r)
/-- What stands below: the nets of a right graph. -/
structure ClBase (wB : World) (g : List (List Int)) (xp : Option Addr) (xc : Nat) : Prop where
  ok : GOk g
  sl : Sl wB 70 (.slice xp g.length xc) g.length ((netL g).map u32v)
  tab : Tab wB

theorem tyC_vsets : SlTy Tryd.prog 72 70 (.int .u32 0) 1 4 := ⟨Tryd.underlying72, by kernel_rfl, rfl, by decide, by decide⟩
def mskC (ps : List (List Nat)) : List Nat := ps.map fun l => mask (natInts l)
def mskV (L : List (List Nat)) : List Value := (mskC L).map u32v
theorem mskV_app (L M : List (List Nat)) : mskV (L ++ M) = mskV L ++ mskV M := by simp [mskV, mskC]
theorem mskV_length (L : List (List Nat)) : (mskV L).length = L.length := by simp [mskV, mskC]

theorem owns_shapeC {w : World} {base : Nat} {E : TypeId} {size n : Nat} {v : Value} {xs : List Value} (h : w.ownsRow base E size v n xs) : ∃ p c, v = .slice p n c := by
  rcases h.2 with ⟨rfl, h0⟩ | ⟨b, c, _, rfl, _⟩
  · exact ⟨none, 0, by rw [h0]⟩
  · exact ⟨_, _, rfl⟩
theorem left16 {n o : Nat} (hn : n ≤ 16) {left : List Nat} (h : left = bitsOf o) (hl : ∀ j ∈ left, j < n) : left.length ≤ 16 := by
  by_cases he : left = []
  · rw [he]; simp
  · have := rising_room (lo := 0) (n := n) (h ▸ bitsOf_rising o) (fun x hx => ⟨Nat.zero_le _, hl x hx⟩) he
    omega
theorem grown_comp {a b c : World} {r0 : Option Nat} {so : Value} (h : a.grownBy b r0) (hf : ∀ x, so.ownBlock = some x → r0 = some x ∨ a.heap.size ≤ x) (k : b.grownBy c so.ownBlock) : a.grownBy c r0 :=
  ⟨k.os.trans h.os, k.tape.trans h.tape, k.output.trans h.output, Nat.le_trans h.size k.size, fun i hi hr => (k.block i (Nat.lt_of_lt_of_le hi h.size) fun e => by
    rcases hf i e.symm with h1 | h1
    · exact hr h1.symm
    · omega).trans (h.block i hi hr)⟩
theorem grown_of_belowC {a b : World} (h : Below a.heap.size a b) (r : Option Nat) : a.grownBy b r := ⟨h.os, h.tape, h.output, h.size, fun k hk _ => h.block k hk⟩
theorem adG_bit {g : List (List Int)} (hg : GOk g) {v : Nat} (hv : v < g.length) (j : Nat) : ((netL g).getD v 0).testBit j = true ↔ adG g v j = true := by
  rw [netL_getD, testBit_row hg hv, adG, decide_eq_true_iff]
theorem adG_irr {g : List (List Int)} (hg : GOk g) {v : Nat} (hv : v < g.length) : adG g v v = false := by
  rw [adG, decide_eq_false_iff_not]
  exact (hg.sets v hv).2
/-- What growCliques leaves. -/
def ClR (wB : World) (L : List (List Nat)) (w : World) (ov : Value) (e : Ending) (w' : World) : Prop :=
  ∃ v', e = .returned v' ∧ w'.ownsRow wB.heap.size 70 1 v' L.length (mskV L) ∧ w.grownBy w' ov.ownBlock ∧ ∀ b, v'.ownBlock = some b → ov.ownBlock = some b ∨ w.heap.size ≤ b

set_option maxRecDepth 100000 in
set_option maxHeartbeats 4000000 in
theorem growCliques_any (g : List (List Int)) (xp : Option Addr) (xc : Nat) (wB : World) (hB : ClBase wB g xp xc) : ∀ (k : Nat) (set left out : List Nat) (yc yo ys : Int) (c o s : Nat), yc = c → yo = o → ys = s → c < 65536 → o < 65536 → s < 65536 →
    (∀ j, c.testBit j = true ↔ j ∈ set) → left = bitsOf o → (∀ j ∈ left, j < g.length) → (∀ j, s.testBit j = true ↔ j ∈ out) → left.length < k →
    ∀ (w : World) (ov : Value) (L0 : List (List Nat)), Below wB.heap.size wB w → w.ownsRow wB.heap.size 70 1 ov L0.length (mskV L0) → L0.length + 2 ^ left.length ≤ 1000000 →
    Calls Tryd.prog 187 #[.slice xp g.length xc, .int .u32 yc, .int .u32 yo, .int .u32 ys, ov] w fun e w' => ClR wB (L0 ++ clF (adG g) k set left out) w ov e w' := by
  intro k
  have HB := Lib.hid hB
  have h16 := hB.ok.le
  clear hB
  induction k with
  | zero => intro _ _ _ _ _ _ _ _ _ _ _ _ _ _ _ _ _ _ _ h; exact absurd h (Nat.not_lt_zero _)
  | succ k ih =>
    rintro set left out _ _ _ c o s rfl rfl rfl hc16 ho16 hs16 hcs hle hlt hso hk w ov L0 hbel hown hcap
    have IH := Lib.hid ih
    have HCS := Lib.hid hcs
    have HLE := Lib.hid hle
    have HLT := Lib.hid hlt
    have HSO := Lib.hid hso
    have HBEL := Lib.hid hbel
    have HOWN := Lib.hid hown
    have hsz := hbel.size
    clear ih hcs hle hlt hso hbel hown
    by_cases h0 : o = 0
    · have hl0 : Hid (left = []) := Lib.hid (by rw [HLE.out, h0, bitsOf_zero])
      by_cases hs0 : s = 0
      · have ho0 : Hid (out = []) := Lib.hid (by
          refine List.eq_nil_iff_forall_not_mem.2 fun j hj => ?_
          have := (HSO.out j).2 hj
          rw [hs0] at this
          simp at this)
        subst h0 hs0
        have HC : Hid (mask (natInts set) = c) := Lib.hid (Nat.eq_of_testBit_eq fun j => by rw [mask_bit, Bool.eq_iff_iff, decide_eq_true_iff, HCS.out])
        have hown := HOWN.out
        have hcap2 : L0.length < 1000000000 := by have := Nat.two_pow_pos left.length; omega
        go_enter Tryd.func187, Tryd.ntmps187
        go_wp2_with (at_builtin; refine wpList_app1 tyC_vsets rfl rfl rfl hown rfl rfl hcap2 hsz ?_; intro v' w1 hown' hg hfr)
        go_ret
        refine ⟨v', rfl, ?_, hg, fun b hb => (hfr b hb).imp id fun h => by omega⟩
        rw [hl0.out, ho0.out, clF_one, mskV_app, List.length_append]
        have e : mskV [set] = [.int .u32 (c : Int)] := by simp [mskV, mskC, HC.out, u32v]
        rw [e]
        exact hown'
      · have ho0 : Hid (out ≠ []) := Lib.hid (fun h => by
          refine hs0 (Nat.eq_of_testBit_eq fun j => ?_)
          rw [Nat.zero_testBit]
          refine Decidable.byContradiction fun hb => ?_
          have := (HSO.out j).1 (by simpa using hb)
          rw [h] at this
          simp at this)
        subst h0
        go_enter Tryd.func187, Tryd.ntmps187
        go_wp2
        go_ret
        refine ⟨_, rfl, ?_, World.grownBy.refl _ _, fun b hb => .inl hb⟩
        rw [hl0.out, clF_none _ _ _ _ ho0.out, List.append_nil]
        exact HOWN.out
    · have HNE : Hid (left ≠ []) := Lib.hid (fun h => h0 (by
        rw [← mask_bitsOf ho16, ← HLE.out, h]
        rfl))
      have hl32 := Lib.hid (left16 h16 HLE.out HLT.out)
      have hT := HB.out.tab.below HBEL.out HB.out.tab.pos
      have HT := Lib.hid hT
      clear hT
      go_enter Tryd.func187, Tryd.ntmps187
      go_wp2_with (go_at_call 180; refine (list_any _ o rfl (by omega) _ HT.out).mono ?_; rintro e w1 ⟨lv, rfl, ho1, hb1⟩; rw [← HLE.out] at ho1; obtain ⟨lp, lc, rfl⟩ := owns_shapeC ho1)
      have HL1 := Lib.hid (show Nums w1 3 .i64 (.slice lp left.length lc) (natInts left) from numsInt_of _ _ _ _ ho1 (by have := hl32.out; omega))
      have HG1 := Lib.hid (grown_of_belowC hb1 ov.ownBlock)
      have HO1 := Lib.hid (ownsRow_below HOWN.out hb1)
      clear ho1 hb1
      go_loopw [2, 3, 4, 25] (fun so ss sr i wr => ∃ (m oN sN : Nat), m ≤ left.length ∧ i = .int .i64 m ∧ so = .int .u32 oN ∧ ss = .int .u32 sN ∧ oN < 65536 ∧ sN < 65536 ∧ (∀ j, oN.testBit j = true ↔ j ∈ left.drop m) ∧ (∀ j, sN.testBit j = true ↔ j ∈ out ++ left.take m) ∧
        wr.ownsRow wB.heap.size 70 1 sr (L0 ++ clTo (adG g) k set left out m).length (mskV (L0 ++ clTo (adG g) k set left out m)) ∧ w.grownBy wr ov.ownBlock ∧ (∀ b, sr.ownBlock = some b → ov.ownBlock = some b ∨ w.heap.size ≤ b) ∧ Nums wr 3 .i64 (.slice lp left.length lc) (natInts left)) (fun _ _ _ i _ => left.length - (intOf i).toNat)
      case atStart =>
        refine ⟨0, o, s, Nat.zero_le _, rfl, rfl, rfl, ho16, hs16, fun j => ?_, fun j => ?_, ?_, HG1.out, fun b hb => .inl hb, HL1.out⟩
        · rw [List.drop_zero, HLE.out, mem_bitsOf' (by omega)]
        · rw [List.take_zero, List.append_nil, HSO.out]
        · rw [clTo_zero, List.append_nil]
          exact HO1.out
      case round =>
        obtain ⟨m, oN, sN, hm, rfl, rfl, rfl, hoN, hsN, hob, hsb, hown, hgr, hfr, hL⟩ := hrel
        have HOB := Lib.hid hob
        have HSB := Lib.hid hsb
        have HOW := Lib.hid hown
        have HGR := Lib.hid hgr
        have HFR := Lib.hid hfr
        have HL := Lib.hid hL
        have hszr := hgr.size
        have HBR := Lib.hid (below_grown HBEL.out HOWN.out hgr (Nat.le_refl _) hsz)
        clear hob hsb hown hgr hfr hL
        by_cases hlt : m < left.length
        · obtain ⟨_, _, e1, _, _, _, hat⟩ := HL.out.shape
          simp only [Value.slice.injEq] at e1
          obtain ⟨e1a, -, e1c⟩ := e1
          subst e1a e1c
          obtain ⟨b, o1, rfl, hcell⟩ := hat.num (k := m) (by rw [natInts_length]; exact hlt)
          rw [natInts_atL hlt] at hcell
          have HLTm := Lib.hid hlt
          have hvg := HLT.out _ (List.getElem_mem hlt)
          have hgd : Hid (left.getD m 0 = left[m]'hlt) := Lib.hid (by rw [List.getD_eq_getElem?_getD, List.getElem?_eq_getElem hlt]; rfl)
          have hdr : Hid (left.drop m = left[m]'hlt :: left.drop (m + 1)) := Lib.hid (List.drop_eq_getElem_cons hlt)
          have hris : Hid (left.Pairwise (· < ·)) := Lib.hid (HLE.out ▸ bitsOf_rising o)
          generalize hV : left[m]'hlt = v at hcell hvg
          have HV := Lib.hid hV
          clear hV hat
          obtain ⟨nb, no, rfl, hncB⟩ := nets_cell (a := netL g) (by rw [netL_lenP]; exact HB.out.sl) (v := v) (by rw [netL_lenP]; exact hvg)
          have hnc := HBR.out.at' hncB
          have hnv : Hid ((netL g).getD v 0 = (netL g)[v]'(by rw [netL_lenP]; exact hvg)) := Lib.hid (by rw [List.getD_eq_getElem?_getD, List.getElem?_eq_getElem (by rw [netL_lenP]; exact hvg)]; rfl)
          have hn16 := netL_lt HB.out.ok _ (List.getElem_mem (l := netL g) (by rw [netL_lenP]; exact hvg))
          generalize hNV : (netL g)[v]'(by rw [netL_lenP]; exact hvg) = nv at hnc hncB hn16
          have HNB := Lib.hid hncB
          have HNV := Lib.hid hNV
          obtain ⟨t, ht⟩ : ∃ t, t = 2 ^ v := ⟨_, rfl⟩
          have ht16 : t < 65536 := by rw [ht]; exact pow_lt16 v (by omega)
          have HTT := Lib.hid ht
          have hOr := Lib.hid (u32_or_nat c t (by omega) (by omega))
          have hA1 := Lib.hid (u32_and_nat oN nv (by omega) (by omega))
          have hA2 := Lib.hid (u32_and_nat sN nv (by omega) (by omega))
          have hN1 := Lib.hid (u32_andNot_nat oN t (by omega) (by omega))
          have hN2 := Lib.hid (u32_or_nat sN t (by omega) (by omega))
          clear hNV ht hncB
          have e0 : (0 : Int) ≤ (v : Int) := by omega
          have e1 : (v : Int) < (g.length : Int) := by omega
          go_upto_region 8 with fail
          go_cut [4] (fun s4 wx => wx.ownsRow wB.heap.size 70 1 s4 (L0 ++ clTo (adG g) k set left out (m + 1)).length (mskV (L0 ++ clTo (adG g) k set left out (m + 1))) ∧ wr.grownBy wx u4.ownBlock ∧ (∀ b, s4.ownBlock = some b → u4.ownBlock = some b ∨ wr.heap.size ≤ b))
          case first =>
            have hgv : Hid (left.getD m 0 = v) := Lib.hid (hgd.out.trans HV.out)
            have hbc : c ||| t < 65536 := or_lt16 _ _ hc16 ht16
            have hba1 : oN &&& nv < 65536 := and_lt16 _ _ hoN
            have hba2 : sN &&& nv < 65536 := and_lt16 _ _ hsN
            have hnb : ∀ j, nv.testBit j = true ↔ adG g v j = true := fun j => by rw [← HNV.out, ← hnv.out]; exact adG_bit HB.out.ok hvg j
            have HA : Hid (∀ j, (c ||| t).testBit j = true ↔ j ∈ set ++ [left.getD m 0]) := Lib.hid (fun j => by
              rw [Nat.testBit_or, Bool.or_eq_true, HCS.out, HTT.out, Nat.testBit_two_pow, decide_eq_true_iff, hgv.out, List.mem_append, List.mem_singleton]
              exact or_congr Iff.rfl ⟨fun h => h.symm, fun h => h.symm⟩)
            have HBB : Hid ((left.drop (m + 1)).filter (adG g (left.getD m 0)) = bitsOf (oN &&& nv)) := Lib.hid (by
              refine rising_ext _ _ ((hris.out.sublist (List.drop_sublist _ _)).filter _) (bitsOf_rising _) fun j => ?_
              rw [mem_bitsOf' (by omega), Nat.testBit_and, Bool.and_eq_true, HOB.out, hnb, List.mem_filter, hgv.out, hdr.out, List.mem_cons, HV.out]
              constructor
              · rintro ⟨h1, h2⟩
                exact ⟨.inr h1, h2⟩
              · rintro ⟨rfl | h1, h2⟩
                · rw [adG_irr HB.out.ok hvg] at h2
                  exact nomatch h2
                · exact ⟨h1, h2⟩)
            have HCC : Hid (∀ j, (sN &&& nv).testBit j = true ↔ j ∈ (out ++ left.take m).filter (adG g (left.getD m 0))) := Lib.hid (fun j => by
              rw [Nat.testBit_and, Bool.and_eq_true, HSB.out, hnb, List.mem_filter, hgv.out])
            have hflen : Hid (((left.drop (m + 1)).filter (adG g (left.getD m 0))).length ≤ left.length - (m + 1)) := Lib.hid (Nat.le_trans (List.length_filter_le _ _) (by rw [List.length_drop]; omega))
            have HCAP : Hid ((L0 ++ clTo (adG g) k set left out m).length + 2 ^ ((left.drop (m + 1)).filter (adG g (left.getD m 0))).length ≤ 1000000) := Lib.hid (by
              have h1 := clTo_len (E := adG g) (k := k) (set := set) (left := left) (out := out) (i := m) (by omega)
              have h2 := Nat.pow_le_pow_right (show 0 < 2 by decide) (show ((left.drop (m + 1)).filter (adG g (left.getD m 0))).length ≤ left.length - m by have := hflen.out; omega)
              rw [List.length_append]
              omega)
            have HSUB : Hid (∀ j ∈ (left.drop (m + 1)).filter (adG g (left.getD m 0)), j < g.length) := Lib.hid (fun j hj => HLT.out j (List.mem_of_mem_drop (List.mem_filter.1 hj).1))
            clear hnb
            go_region_held3 (fun w' => w'.cell? ⟨nb, no + v, none⟩ = some (.int .u32 nv))
              (first | go_keep | exact hnc | exact hnc4)
              (first
                | (go_at_call 187; refine (IH.out (set ++ [left.getD m 0]) ((left.drop (m + 1)).filter (adG g (left.getD m 0))) ((out ++ left.take m).filter (adG g (left.getD m 0))) _ _ _ (c ||| t) (oN &&& nv) (sN &&& nv) hOr.out hA1.out hA2.out hbc hba1 hba2 HA.out HBB.out HSUB.out HCC.out (by have := hflen.out; omega) _ u4 (L0 ++ clTo (adG g) k set left out m) (below_dN HBR.out 1) (ownsRow_below HOW.out (below_dN (Below.refl _ _) 1)) HCAP.out).mono ?_; rintro e w4 ⟨v4, rfl, ho4, hg4, hf4⟩; have BW4 : Below wB.heap.size wB w4 := below_grown (below_dN HBR.out 1) (ownsRow_below HOW.out (below_dN (Below.refl _ _) 1)) hg4 (Nat.le_refl _) (below_dN HBR.out 1).size; have hnc4 := BW4.at' HNB.out; have HO4 := Lib.hid ho4; have HG4 := Lib.hid hg4; have HF4 := Lib.hid hf4; clear ho4 hg4 hf4)
                | (go_at_call 156; refine (one_any _ v rfl (by omega) _).mono ?_; rintro e w2 ⟨he2, hw2⟩; rw [← HTT.out] at he2; subst he2; subst hw2))
            all_goals go_wp2
            all_goals go_meet
            all_goals exact ⟨by rw [clTo_succ, ← List.append_assoc]; exact HO4.out, ⟨HG4.out.os, HG4.out.tape, HG4.out.output, HG4.out.size, HG4.out.block⟩, HF4.out⟩
          case rest =>
            obtain ⟨ho4, hg4, hf4⟩ := hcut
            have HL4 := Lib.hid (Sl.other HL.out HOW.out hg4 (by decide))
            have HO4 := Lib.hid ho4
            have HG4 := Lib.hid (grown_comp HGR.out HFR.out hg4)
            have HF4 := Lib.hid (show ∀ b, _ → ov.ownBlock = some b ∨ w.heap.size ≤ b from fun b hb => (hf4 b hb).elim (HFR.out b) fun h => .inr (by omega))
            clear ho4 hg4 hf4
            have h16m := hl32.out
            go_wp2_with (go_at_call 156; refine (one_any _ v rfl (by omega) _).mono ?_; rintro e w2 ⟨he2, hw2⟩; rw [← HTT.out] at he2; subst he2; subst hw2)
            go_roundw
            case rel =>
              refine ⟨m + 1, sub oN t, sN ||| t, by omega, by go_num, by rw [hN1.out]; rfl, by rw [hN2.out], sub_lt16 _ _ hoN, or_lt16 _ _ hsN ht16, fun j => ?_, fun j => ?_, HO4.out, HG4.out, HF4.out, HL4.out⟩
              · have hdr2 := hdr.out
                rw [HV.out] at hdr2
                have hnd := (hris.out.sublist (List.drop_sublist m left))
                rw [hdr2] at hnd
                rw [testBit_sub _ _ (by omega) (by omega), Bool.and_eq_true, HOB.out, hdr2, HTT.out, Nat.testBit_two_pow, List.mem_cons]
                constructor
                · rintro ⟨h1 | h1, h2⟩
                  · rw [h1] at h2
                    simp at h2
                  · exact h1
                · intro h1
                  refine ⟨.inr h1, ?_⟩
                  have := (List.pairwise_cons.1 hnd).1 j h1
                  simp
                  omega
              · rw [Nat.testBit_or, Bool.or_eq_true, HSB.out, HTT.out, Nat.testBit_two_pow, decide_eq_true_iff, take_snoc left m HLTm.out, ← List.append_assoc, List.mem_append (t := [_]), List.mem_singleton, HV.out]
                exact or_congr Iff.rfl ⟨fun h => h.symm, fun h => h.symm⟩
            case measure => simp [intOf]; omega
        · obtain rfl : m = left.length := by omega
          go_wp2
          go_ret
          refine ⟨_, rfl, ?_, HGR.out, HFR.out⟩
          rw [clF_more _ _ _ _ _ (fun h => HNE.out h.1)]
          exact HOW.out

end Go.Proofs.YtkppbmfliejnmaaDoor
