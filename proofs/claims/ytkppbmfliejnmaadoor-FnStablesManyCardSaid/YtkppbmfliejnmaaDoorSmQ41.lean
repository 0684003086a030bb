/- Walks: a drawn set of a graph, the rest of a set, sets as bits, is a set stable? -/
import Derived.Test.YtkppbmfliejnmaaDoorSmQ33
import Derived.Test.YtkppbmfliejnmaaDoorSmQ34
import Derived.Test.YtkppbmfliejnmaaDoorSmQ38
import Derived.Test.YtkppbmfliejnmaaDoorSmQ11
import Derived.Test.YtkppbmfliejnmaaDoorSmQ17
import Derived.Test.YtkppbmfliejnmaaDoorSmQ40
namespace Go.Proofs.YtkppbmfliejnmaaDoor
open Go.RowKit

set_option maxRecDepth 100000 in
set_option maxHeartbeats 4000000 in
theorem w6Set_any (w0 : World) (db : Nat) (bs : List Int) (p : Option Addr) (n c : Nat) (hn : n ≤ 1000) (w : World) (hd : Dice w0 w db bs) (hdb : db < w.heap.size) :
    Calls Tryd.prog 15 #[.pointer (some ⟨db, 0, none⟩), .agg #[.slice p n c]] w fun e w' => ∃ (ov : Value) (o : List Nat), e = .returned ov ∧ o.length ≤ n ∧ o.Pairwise (· < ·) ∧ (∀ x ∈ o, x < n) ∧ DrwI w0 w w' db bs ov (natInts o) := by
  obtain ⟨W0, hW0⟩ : ∃ W0, W0 = w.alloc (.cells #[.slice p n c] 29) := ⟨_, rfl⟩
  have hb0 : Below w.heap.size w W0 := by rw [hW0]; exact below_alloc _ _
  have sz0 : W0.heap.size = w.heap.size + 1 := by rw [hW0, size_alloc]
  have hbx0 : Box W0 w.heap.size 29 (.slice p n c) := by rw [hW0]; exact Box.new _ _ _
  have START : Hid (DrwI w0 w (W0.alloc (.cells #[] 2)) db bs (.slice (some ⟨W0.heap.size, 0, none⟩) 0 0) (natInts [])) := Lib.hid ⟨(hd.keep hb0).keep (below_alloc _ _), grown_trans (grown_of_below hb0 _) (grown_of_below (below_alloc _ _) _), ownsRow_base (ownsRow_empty W0 2 1) (by omega), hdb⟩
  have STBX : Hid (Box (W0.alloc (.cells #[] 2)) w.heap.size 29 (.slice p n c)) := Lib.hid (hbx0.alloc _)
  rw [sz0] at START
  clear hd hdb hb0 hbx0
  go_enter Tryd.func15, Tryd.ntmps15
  go_upto_region 1 with fail
  rw [← hW0]
  clear hW0
  go_wp2_with fail
  go_loopw [5, 6] (fun ov vv wr => ∃ (v : Nat) (o : List Nat), v ≤ n ∧ vv = .int .i64 (v : Int) ∧ o.length ≤ v ∧ Hid (o.Pairwise (· < ·) ∧ ∀ x ∈ o, x < v) ∧ Hid (DrwI w0 w wr db bs ov (natInts o)) ∧ Hid (Box wr w.heap.size 29 (.slice p n c))) (fun _ vv _ => n - (intOf vv).toNat)
  case atStart => exact ⟨0, [], Nat.zero_le _, rfl, Nat.le_refl _, Lib.hid ⟨by simp, by simp⟩, by first | exact START | (rw [sz0]; exact START), STBX⟩
  case round =>
    clear START STBX sz0
    obtain ⟨v, o, hv, rfl, hol, HO, HI, HX⟩ := hrel
    have cx := HX.out.cell
    by_cases hlt : v < n
    · have hvi : (v : Int) < (n : Int) := by omega
      go_upto_if 17 with (go_at_call 28; refine (below_any w0 db bs 2 _ rfl (by omega) (by omega) _ HI.out.dice).mono ?_; rintro e w2 ⟨k, rfl, hk, hd2, hg2⟩; have HI2 := Lib.hid (HI.out.throw hd2 hg2); have HX2 := Lib.hid (HX.out.diced HI.out.dice hg2 (by decide)); clear hd2 hg2)
      by_cases hk0 : k = 0
      · have hown := HI2.out.own
        rw [natInts_length] at hown
        have hlow := HI2.out.gr.size
        have hke : ((k : Int) == 0) = true := by simp [hk0]
        clear hk0
        go_wp2_with (at_builtin; refine wpList_app1 ty_i64 rfl rfl rfl hown rfl rfl (by omega) hlow ?_; intro v7 w7 hown7 hg7 _)
        have HX7 := Lib.hid (HX2.out.grown hg7 (box_ne_own HX2.out hown (by decide)))
        go_roundw
        case rel =>
          refine ⟨v + 1, o ++ [v], by omega, by go_num, by simp; omega, Lib.hid ⟨?_, ?_⟩, Lib.hid ?_, HX7⟩
          · rw [List.pairwise_append]
            exact ⟨HO.out.1, by simp, fun a ha b hb => by rw [List.mem_singleton] at hb; have := HO.out.2 a ha; omega⟩
          · intro x hx
            rcases List.mem_append.1 hx with h | h
            · have := HO.out.2 x h; omega
            · rw [List.mem_singleton] at h; omega
          · have := HI2.out.app (z := (v : Int)) (by rw [natInts_length]; exact hown7) hg7
            simpa [natInts] using this
        case measure => simp [intOf]; omega
      · have hke : ((k : Int) == 0) = false := beq_eq_false_iff_ne.2 (by omega)
        clear hk0
        go_wp2_with fail
        go_roundw
        case rel => exact ⟨v + 1, o, by omega, by go_num, by omega, Lib.hid ⟨HO.out.1, fun x hx => by have := HO.out.2 x hx; omega⟩, HI2, HX2⟩
        case measure => simp [intOf]; omega
    · obtain rfl : v = n := by omega
      go_wp2_with fail
      go_ret
      exact ⟨_, o, rfl, hol, HO.out.1, HO.out.2, HI.out⟩

/-- What is not in a list, below v. -/
def rstN (xs : List Int) (v : Nat) : List Nat := (List.range v).filter fun x => decide ((x : Int) ∉ xs)
theorem rstN_yes {xs : List Int} {v : Nat} (h : (v : Int) ∉ xs) : rstN xs (v + 1) = rstN xs v ++ [v] := by
  unfold rstN; rw [List.range_succ, List.filter_append]; simp [h]
theorem rstN_no {xs : List Int} {v : Nat} (h : (v : Int) ∈ xs) : rstN xs (v + 1) = rstN xs v := by
  unfold rstN; rw [List.range_succ, List.filter_append]; simp [h]
theorem rstN_len (xs : List Int) (v : Nat) : (rstN xs v).length ≤ v := by
  have := List.length_filter_le (fun x : Nat => decide ((x : Int) ∉ xs)) (List.range v)
  rwa [List.length_range] at this

set_option maxRecDepth 100000 in
set_option maxHeartbeats 4000000 in
theorem w6Rest_any (p : Option Addr) (n c : Nat) (lv : Value) (xs : List Int) (hn : n ≤ 1000) (w : World) (hx : Nums w 2 .i64 lv xs) :
    Calls Tryd.prog 21 #[.agg #[.slice p n c], lv] w fun e w' => ∃ ov, e = .returned ov ∧ w'.ownsRow w.heap.size 2 1 ov (rstN xs n).length ((natInts (rstN xs n)).map (Value.int .i64)) ∧ Below w.heap.size w w' := by
  obtain ⟨lp, lc, rfl, _⟩ := id hx.shape
  obtain ⟨W0, hW0⟩ : ∃ W0, W0 = w.alloc (.cells #[.slice p n c] 29) := ⟨_, rfl⟩
  have hb0 : Below w.heap.size w W0 := by rw [hW0]; exact below_alloc _ _
  have sz0 : W0.heap.size = w.heap.size + 1 := by rw [hW0, size_alloc]
  have HBX : Hid (Box W0 w.heap.size 29 (.slice p n c)) := Lib.hid (by rw [hW0]; exact Box.new _ _ _)
  have HX := Lib.hid (hx.below hb0)
  have HB0 := Lib.hid hb0
  have START := Lib.hid (ownsRow_empty W0 2 1)
  have STB := Lib.hid (below_alloc W0 (.cells #[] 2))
  clear hx hb0
  go_enter Tryd.func21, Tryd.ntmps21
  go_upto_region 1 with fail
  rw [← hW0]
  clear hW0
  go_wp2_with fail
  go_loopw [5, 6] (fun ov vv wr => ∃ (v : Nat), v ≤ n ∧ vv = .int .i64 (v : Int) ∧ Hid (wr.ownsRow W0.heap.size 2 1 ov (rstN xs v).length ((natInts (rstN xs v)).map (Value.int .i64))) ∧ Hid (Below W0.heap.size W0 wr)) (fun _ vv _ => n - (intOf vv).toNat)
  case atStart => exact ⟨0, Nat.zero_le _, rfl, by rw [← sz0]; exact START, STB⟩
  case round =>
    clear START STB sz0
    obtain ⟨v, hv, rfl, HO, HB⟩ := hrel
    have cx := HB.out.at' HBX.out.cell
    have hlen := rstN_len xs v
    by_cases hlt : v < n
    · have hvi : (v : Int) < (n : Int) := by omega
      have hown := HO.out
      have hsz := HB.out.size
      by_cases hm : (v : Int) ∈ xs
      · have HD := Lib.hid (dec_true hm)
        have HS := Lib.hid (rstN_no hm)
        clear hm
        go_wp2_with (go_at_call 34; refine (w6Has_any _ xs _ _ (HX.out.below HB.out)).mono ?_; rintro e w2 ⟨he, rfl⟩; rw [HD.out] at he; subst he)
        go_roundw
        case rel => exact ⟨v + 1, by omega, by go_num, Lib.hid (by rw [HS.out]; exact HO.out), HB⟩
        case measure => simp [intOf]; omega
      · have HD := Lib.hid (dec_false hm)
        have HS := Lib.hid (rstN_yes hm)
        clear hm
        go_wp2_with (first
          | (go_at_call 34; refine (w6Has_any _ xs _ _ (HX.out.below HB.out)).mono ?_; rintro e w2 ⟨he, rfl⟩; rw [HD.out] at he; subst he)
          | (at_builtin; refine wpList_app1 ty_i64 rfl rfl rfl hown rfl rfl (by omega) hsz ?_; intro v7 w7 hown7 hg7 _))
        have HO7 := Lib.hid hown7
        have HB7 := Lib.hid (below_grown HB.out hown hg7 (Nat.le_refl _) hsz)
        go_roundw
        case rel => exact ⟨v + 1, by omega, by go_num, Lib.hid (by rw [HS.out, show natInts (rstN xs v ++ [v]) = natInts (rstN xs v) ++ [(v : Int)] by simp [natInts], List.map_append, List.length_append]; exact HO7.out), HB7⟩
        case measure => simp [intOf]; omega
    · obtain rfl : v = n := by omega
      go_wp2_with fail
      go_ret
      exact ⟨_, rfl, ownsRow_base HO.out HB0.out.size, HB0.out.trans (HB.out.mono HB0.out.size)⟩

set_option maxRecDepth 100000 in
set_option maxHeartbeats 2000000 in
theorem l25Mask_any (v : Value) (xs : List Int) (hr : ∀ x ∈ xs, 0 ≤ x ∧ x < 16) (w : World) (hx : Nums w 2 .i64 v xs) :
    Calls Tryd.prog 102 #[v] w fun e w' => e = .returned (.int .i64 ((mask xs : Nat) : Int)) ∧ w = w' := by
  obtain ⟨p, c, rfl, _⟩ := id hx.shape
  have HN := Lib.hid hx
  have HIN := Lib.hid hr
  clear hx hr
  go_enter Tryd.func102, Tryd.ntmps102
  go_wp2
  go_loop [3, 4] (fun m t => ∃ (a j : Nat), m = .int .i64 a ∧ t = .int .i64 j ∧ j ≤ xs.length ∧ Hid (a = mask (xs.take j))) (fun _ t => xs.length - (intOf t).toNat)
  case atStart => exact ⟨0, 0, rfl, rfl, Nat.zero_le _, Lib.hid (by simp [mask])⟩
  case round =>
    obtain ⟨a, j, rfl, rfl, hj, HA⟩ := hrel
    by_cases hjl : j < xs.length
    · obtain ⟨rb, ro, rfl, hc⟩ := HN.out.get hjl
      have hxx := HIN.out _ (List.getElem_mem hjl)
      obtain ⟨x, hx⟩ : ∃ x : Nat, xs[j] = (x : Int) := ⟨(xs[j]).toNat, by omega⟩
      have hts := Lib.hid (take_snoc xs j hjl)
      rw [hx] at hc hxx
      have hx16 : x < 16 := by omega
      have hwp := wrap_pow x (by omega)
      have ha16 : a < 65536 := by rw [HA.out]; exact mask_take_lt16 HIN.out j
      have hp16 := pow_lt16 x hx16
      obtain ⟨q, hq⟩ : ∃ q, q = 2 ^ x := ⟨_, rfl⟩
      rw [← hq] at hwp hp16
      have hor := i64_or_nat a q (Nat.lt_trans ha16 (by decide)) (Nat.lt_trans hp16 (by decide))
      have HM : Hid (a ||| q = mask (xs.take (j + 1))) := Lib.hid (by rw [hts.out, mask_snoc, ← HA.out, hx, hq]; rfl)
      generalize a ||| q = r at hor HM
      have HQ := Lib.hid hq
      clear hx hq
      go_wp2
      go_round
      case rel => exact ⟨r, j + 1, rfl, by go_num, by omega, HM⟩
      case measure => simp [intOf]; omega
    · obtain rfl : j = xs.length := by omega
      rw [List.take_length] at HA
      go_wp2
      go_ret
      exact ⟨by have h := HA.out; subst h; rfl, rfl⟩

/-- No vertex of a set of bits has a neighbour in it. -/
def StbB (a : List Nat) (b : Nat) : Prop := ∀ v, v < a.length → b.testBit v = true → a.getD v 0 &&& b = 0

set_option maxRecDepth 100000 in
set_option maxHeartbeats 2000000 in
theorem l25Stable_any (p : Option Addr) (c : Nat) (a : List Nat) (b : Nat) (hal : a.length ≤ 16) (ha : ∀ x ∈ a, x < 65536) (hb : b < 65536) (w : World) (hx : Sl w 2 (.slice p a.length c) a.length (a.map i64v)) :
    Calls Tryd.prog 100 #[.slice p a.length c, .int .i64 (b : Int)] w fun e w' => e = .returned (.bool (dec (StbB a b))) ∧ w = w' := by
  have HX := Lib.hid hx
  have HIN := Lib.hid ha
  clear hx ha
  go_enter Tryd.func100, Tryd.ntmps100
  go_wp2
  go_loop [5] (fun t => ∃ j : Nat, t = .int .i64 j ∧ j ≤ a.length ∧ Hid (∀ v, v < j → b.testBit v = true → a.getD v 0 &&& b = 0)) (fun t => a.length - (intOf t).toNat)
  case atStart => exact ⟨0, rfl, Nat.zero_le _, Lib.hid fun v h => absurd h (Nat.not_lt_zero _)⟩
  case round =>
    obtain ⟨j, rfl, hj, HA⟩ := hrel
    by_cases hjl : j < a.length
    · obtain ⟨qb, qo, rfl, hc⟩ := i64_cell HX.out hjl
      have hx16 := HIN.out _ (List.getElem_mem hjl)
      have HG : Hid (a.getD j 0 = a[j]) := Lib.hid (by rw [List.getD_eq_getElem?_getD, List.getElem?_eq_getElem hjl]; rfl)
      generalize a[j] = x at hc hx16 HG
      have hbit := shrB_bit b j hb
      have hand := i64_and_nat x b (by omega) (by omega)
      have hj32 : j < 64 := by omega
      cases ht : b.testBit j
      · rw [ht] at hbit
        have HT := Lib.hid ht
        clear ht hand
        go_wp2
        go_round
        case rel => exact ⟨j + 1, by go_num, by omega, Lib.hid fun v hv hv2 => by
          by_cases e : v < j
          · exact HA.out v e hv2
          · obtain rfl : v = j := by omega
            rw [HT.out] at hv2; cases hv2⟩
        case measure => simp [intOf]; omega
      · rw [ht] at hbit
        have HT := Lib.hid ht
        clear ht
        by_cases h0 : x &&& b = 0
        · have H0 := Lib.hid h0
          rw [h0] at hand
          clear h0
          go_wp2
          go_round
          case rel => exact ⟨j + 1, by go_num, by omega, Lib.hid fun v hv hv2 => by
            by_cases e : v < j
            · exact HA.out v e hv2
            · obtain rfl : v = j := by omega
              rw [HG.out]; exact H0.out⟩
          case measure => simp [intOf]; omega
        · have HNE : Hid (¬ a.getD j 0 &&& b = 0) := Lib.hid (by rw [HG.out]; exact h0)
          have HJ := Lib.hid hjl
          have hne : (((x &&& b : Nat) : Int) != 0) = true := bne_iff_ne.2 (by omega)
          generalize x &&& b = y at hand hne h0
          clear h0
          go_wp2
          go_ret
          exact ⟨ret_bool (false_dec fun k => HNE.out (k j HJ.out HT.out)), rfl⟩
    · obtain rfl : j = a.length := by omega
      go_wp2
      go_ret
      exact ⟨ret_bool (true_dec HA.out), rfl⟩

/-- A set without neighbours in it. -/
def StbS (g : List (List Int)) (s : List Int) : Prop := GOk g ∧ SetIn g.length s ∧ StbB (netL g) (mask s)

set_option maxRecDepth 100000 in
set_option maxHeartbeats 2000000 in
theorem specStableIn_any (v lv : Value) (g : List (List Int)) (s : List Int) (hgl : g.length ≤ 1000000000) (w : World) (hg : Gr w v g) (hn : Nums w 2 .i64 lv s) :
    Calls Tryd.prog 23 #[v, lv] w fun e w' => e = .returned (.bool (dec (StbS g s))) ∧ Below w.heap.size w w' := by
  have hg0 := hg
  obtain ⟨u, rfl, hr⟩ := hg
  obtain ⟨p, c, rfl, _⟩ := hr.shape
  obtain ⟨lp, lc, rfl, _⟩ := id hn.shape
  obtain ⟨W0, hW0⟩ : ∃ W0, W0 = w.alloc (.cells #[.slice p g.length c] 29) := ⟨_, rfl⟩
  have hb0 : Below w.heap.size w W0 := by rw [hW0]; exact below_alloc _ _
  have HBX : Hid (Box W0 w.heap.size 29 (.slice p g.length c)) := Lib.hid (by rw [hW0]; exact Box.new _ _ _)
  have HG := Lib.hid (hg0.below hb0)
  have HN := Lib.hid (hn.below hb0)
  have HB0 := Lib.hid hb0
  have c0 := HBX.out.cell
  clear hr hg0 hn hb0
  by_cases hok : GOk g
  case neg =>
    have HD := Lib.hid (dec_false hok)
    have HNO : Hid (¬ StbS g s) := Lib.hid fun k => hok k.1
    clear hok
    go_enter Tryd.func23, Tryd.ntmps23
    go_upto_region 1 with fail
    rw [← hW0]
    clear hW0
    go_wp2_with (go_at_call 73; refine (specGraphOk_any _ g _ HG.out).mono ?_; rintro e w2 ⟨he, hb2⟩; rw [HD.out] at he; subst he)
    go_ret
    exact ⟨ret_bool (false_dec HNO.out), HB0.out.trans (hb2.mono HB0.out.size)⟩
  have HDG := Lib.hid (dec_true hok)
  by_cases hset : SetIn g.length s
  case neg =>
    have HD : Hid (dec (GOk g ∧ SetIn g.length s) = false) := Lib.hid (dec_false fun k => hset k.2)
    have HNO : Hid (¬ StbS g s) := Lib.hid fun k => hset k.2.1
    clear hok hset
    go_enter Tryd.func23, Tryd.ntmps23
    go_upto_region 1 with fail
    rw [← hW0]
    clear hW0
    go_wp2_with (first
      | (have X := hb2; go_at_call 99; refine (specSetOk_any _ _ g s hgl _ (HG.out.below X) (HN.out.below X)).mono ?_; rintro e w3 ⟨he, hb3⟩; rw [HD.out] at he; subst he)
      | (go_at_call 73; refine (specGraphOk_any _ g _ HG.out).mono ?_; rintro e w2 ⟨he, hb2⟩; rw [HDG.out] at he; subst he; have d0 := hb2.at' c0))
    go_ret
    exact ⟨ret_bool (false_dec HNO.out), HB0.out.trans ((hb2.trans (hb3.mono hb2.size)).mono HB0.out.size)⟩
  have HD : Hid (dec (GOk g ∧ SetIn g.length s) = true) := Lib.hid (dec_true ⟨hok, hset⟩)
  have h16 := hok.le
  have HIN : Hid (∀ x ∈ s, 0 ≤ x ∧ x < 16) := Lib.hid fun x hx => by have := hset.1 x hx; omega
  have hm16 : mask s < 65536 := by
    have := mask_take_lt16 HIN.out s.length
    rwa [List.take_length] at this
  have HIFF : Hid (dec (StbB (netL g) (mask s)) = dec (StbS g s)) := Lib.hid (by
    by_cases h : StbB (netL g) (mask s)
    · rw [dec_true h, dec_true ⟨hok, hset, h⟩]
    · rw [dec_false h, dec_false fun k => h k.2.2])
  have HOK := Lib.hid hok
  have hnl : (netL g).length = g.length := netL_len g
  have HNL := Lib.hid hnl
  obtain ⟨b, hb⟩ : ∃ b, b = mask s := ⟨_, rfl⟩
  have HMB := Lib.hid hb
  rw [← hb] at hm16 HIFF
  have STB : Hid (∀ (wz : World) (q : Option Addr) (d : Nat), Sl wz 2 (.slice q g.length d) g.length ((netL g).map i64v) → Calls Tryd.prog 100 #[.slice q g.length d, .int .i64 (b : Int)] wz fun e w' => e = .returned (.bool (dec (StbS g s))) ∧ wz = w') := Lib.hid fun wz q d h => by
    have := l25Stable_any q d (netL g) b (by rw [HNL.out]; exact h16) (fun x hx => netL_lt HOK.out x hx) hm16 wz (by rw [HNL.out]; exact h)
    rw [HNL.out, HIFF.out] at this
    exact this
  clear hok hset hb hnl
  go_enter Tryd.func23, Tryd.ntmps23
  go_upto_region 1 with fail
  rw [← hW0]
  clear hW0
  go_wp2_with (first
    | (go_at_call 100; refine (STB.out _ _ _ HSL.out).mono ?_; rintro e w6 ⟨rfl, rfl⟩)
    | (have X := HB4; go_at_call 102; refine (l25Mask_any _ s HIN.out _ (HN.out.below HB4.out)).mono ?_; rintro e w5 ⟨he, rfl⟩; rw [← HMB.out] at he; subst he)
    | (have X := HB3; go_at_call 101; refine (l25Bits_any _ g _ (HG.out.below HB3.out) HOK.out).mono ?_; rintro e w4 ⟨u4, rfl, ho4, hb4⟩; obtain ⟨q4, d4, rfl, _⟩ := owns_capL ho4; have HSL := Lib.hid (Sl.of_owns ho4 (by omega)); have HB4 := Lib.hid (HB3.out.trans (hb4.mono HB3.out.size)); clear ho4 hb4)
    | (have X := hb2; go_at_call 99; refine (specSetOk_any _ _ g s hgl _ (HG.out.below X) (HN.out.below X)).mono ?_; rintro e w3 ⟨he, hb3⟩; rw [HD.out] at he; subst he; have HB3 := Lib.hid (hb2.trans (hb3.mono hb2.size)); have e0 := hb3.at' d0)
    | (go_at_call 73; refine (specGraphOk_any _ g _ HG.out).mono ?_; rintro e w2 ⟨he, hb2⟩; rw [HDG.out] at he; subst he; have d0 := hb2.at' c0))
  go_ret
  exact ⟨rfl, HB0.out.trans (HB4.out.mono HB0.out.size)⟩

end Go.Proofs.YtkppbmfliejnmaaDoor
