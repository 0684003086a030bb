/- Walks: l8Meet, l1All (the reference's cliques). -/
import Derived.Test.YtmakhapdlkbbnaaDoorMnQ19
import Derived.Test.YtmakhapdlkbbnaaDoorMnQ15
import Derived.Test.YtmakhapdlkbbnaaDoorMnQ10
import Derived.Deep.RegionHeld3
import Derived.Deep.DeepCutAuto
import Derived.Test.YtmakhapdlkbbnaaDoorMnQ7
import Derived.Test.YtmakhapdlkbbnaaDoorMnQ21
import Derived.Test.YtmakhapdlkbbnaaDoorMnQ35
import Derived.Test.YtmakhapdlkbbnaaDoorMnQ34
namespace Go.Proofs.YtmakhapdlkbbnaaDoor
open Go.RowKit

set_option maxRecDepth 100000 in
set_option maxHeartbeats 1000000 in
theorem l1All_any (z : Int) (n : Nat) (hz : z = n) (hn : n ≤ 1000) (w : World) :
    Calls Tryd.prog 100 #[.int .i64 z] w fun e w' => ∃ ov, e = .returned ov ∧ w'.ownsRow w.heap.size 2 1 ov n ((natInts (List.range n)).map (Value.int .i64)) ∧ Below w.heap.size w w' := by
  subst hz
  have HO := Lib.hid (ownsRow_empty w 2 1)
  have HB := Lib.hid (below_alloc w (.cells #[] 2))
  go_enter Tryd.func100, Tryd.ntmps100
  go_wp2
  go_loopw [3, 4] (fun o i wr => ∃ k : Nat, k ≤ n ∧ i = .int .i64 k ∧ wr.ownsRow w.heap.size 2 1 o k ((natInts (List.range k)).map (Value.int .i64)) ∧ Below w.heap.size w wr) (fun _ i _ => n - (intOf i).toNat)
  case atStart => exact ⟨0, Nat.zero_le _, rfl, HO.out, HB.out⟩
  case round =>
    obtain ⟨k, hk, rfl, hown, hbel⟩ := hrel
    have hsz := hbel.size
    by_cases hlt : k < n
    · go_wp2_with (at_builtin; refine wpList_app1 ty_i64 rfl rfl rfl hown rfl rfl (by omega) (by omega) ?_; intro v' w1 hown' hg _)
      go_roundw
      case rel => exact ⟨k + 1, by omega, by go_num, by rw [List.range_succ, show natInts (List.range k ++ [k]) = natInts (List.range k) ++ [(k : Int)] by simp [natInts], List.map_append]; exact hown', below_grown hbel hown hg (Nat.le_refl _) hsz⟩
      case measure => simp [intOf]; omega
    · obtain rfl : k = n := by omega
      go_wp2
      go_ret
      exact ⟨_, rfl, hown, hbel⟩

theorem nums_at {w : World} {E : TypeId} {p : Option Addr} {m c : Nat} {xs : List Int} (h : Nums w E .i64 (.slice p m c) xs) : At w E p (xs.map (Value.int .i64)) := by
  obtain ⟨p', c', e, _, _, _, hat⟩ := h
  simp only [Value.slice.injEq] at e
  obtain ⟨rfl, _, _⟩ := e
  exact hat
/-- Those of xs that are in ys, up to the k-th. -/
def meetL (xs : List Nat) (ys : List Int) (k : Nat) : List Nat := (xs.take k).filter fun j => decide ((j : Int) ∈ ys)
theorem meetL_succ {xs : List Nat} {ys : List Int} {k : Nat} (h : k < xs.length) : meetL xs ys (k + 1) = if ((xs[k] : Nat) : Int) ∈ ys then meetL xs ys k ++ [xs[k]] else meetL xs ys k := by
  unfold meetL
  rw [take_snoc _ k h, List.filter_append]
  by_cases hm : ((xs[k] : Nat) : Int) ∈ ys
  · rw [if_pos hm]; simp [hm]
  · rw [if_neg hm]; simp [hm]
theorem meetL_len (xs : List Nat) (ys : List Int) (k : Nat) : (meetL xs ys k).length ≤ xs.length := Nat.le_trans (List.length_filter_le _ _) (by rw [List.length_take]; omega)

end Go.Proofs.YtmakhapdlkbbnaaDoor

/- Walks: a copy of a graph; the neighbours that are left. -/
namespace Go.Proofs.YtmakhapdlkbbnaaDoor
open Go.RowKit

theorem box_stepB {w wr wc w7 : World} {B k b7 c8 : Nat} {ov x rv : Value} {vals : List Value}
    (hbel : Below B w wr) (hsz : B + 2 ≤ wr.heap.size) (hbc : Below wr.heap.size wr wc)
    (hb2 : Box wr B 29 x) (hb3 : Box wr (B + 1) 29 ov) (hown : wr.ownsRow (B + 2) 36 1 ov k vals)
    (hown7 : w7.ownsRow (B + 2) 36 1 (.slice (some ⟨b7, 0, none⟩) (k + 1) c8) (k + 1) (vals ++ [rv])) (hg7 : wc.grownBy w7 ov.ownBlock) :
    ∃ W, W = w7.setCell ⟨B + 1, 0, none⟩ (.slice (some ⟨b7, 0, none⟩) (k + 1) c8) ∧
      Below B w W ∧ B + 2 ≤ W.heap.size ∧ Box W B 29 x ∧ Box W (B + 1) 29 (.slice (some ⟨b7, 0, none⟩) (k + 1) c8) ∧ W.ownsRow (B + 2) 36 1 (.slice (some ⟨b7, 0, none⟩) (k + 1) c8) (k + 1) (vals ++ [rv]) ∧
      (∀ base size n v (xs : List Value), wc.ownsRow base 2 size v n xs → W.ownsRow base 2 size v n xs) := by
  have hownc := ownsRow_below hown hbc
  have hszc := hbc.size
  have hsz7 := hg7.size
  have hb7 : Below (B + 2) wc w7 := below_grown (Below.refl _ _) hownc hg7 (Nat.le_refl _) (by omega)
  have hb37 : Box w7 (B + 1) 29 ov := (hb3.keep hbc).below hb7 (by omega)
  have hb9 : Below (B + 1) w7 (w7.setCell ⟨B + 1, 0, none⟩ (.slice (some ⟨b7, 0, none⟩) (k + 1) c8)) := (Below.refl _ _).setCell (by show B + 1 ≤ B + 1; omega) _
  have hall : Below (B + 1) wr (w7.setCell ⟨B + 1, 0, none⟩ (.slice (some ⟨b7, 0, none⟩) (k + 1) c8)) := ((hbc.mono (by omega)).trans (hb7.mono (by omega))).trans hb9
  refine ⟨_, rfl, hbel.trans (hall.mono (by omega)), by have := hall.size; omega, hb2.below hall (by omega), hb37.set _, ownsRow_setBox hown7 hb37 (by decide) _, fun base size n v xs h => ?_⟩
  exact ownsRow_setBox (ownsRow_other h hownc hg7 (by decide)) hb37 (by decide) _

theorem three_boxes (w : World) (u : Value) : ∃ W, W = ((w.alloc (.cells #[u] 29)).alloc (.cells #[.slice none 0 0] 29)).alloc (.cells #[.slice none 0 0] 29) ∧ Below w.heap.size w W ∧ W.heap.size = w.heap.size + 3 ∧
    Box W w.heap.size 29 u ∧ Box W (w.heap.size + 1) 29 (.slice none 0 0) ∧ Box W (w.heap.size + 1 + 1) 29 (.slice none 0 0) := by
  refine ⟨_, rfl, below_alloc3 _ _ _ _, by rw [size_alloc, size_alloc, size_alloc], ((Box.new w _ _).alloc _).alloc _, ?_, ?_⟩
  · have := (Box.new (w.alloc (.cells #[u] 29)) (.slice none 0 0) 29).alloc (.cells #[.slice none 0 0] 29)
    rw [size_alloc] at this
    exact this
  · have := Box.new ((w.alloc (.cells #[u] 29)).alloc (.cells #[.slice none 0 0] 29)) (.slice none 0 0) 29
    rw [size_alloc, size_alloc] at this
    exact this

set_option maxRecDepth 100000 in
set_option maxHeartbeats 4000000 in
theorem l1CopyGraph_any (v : Value) (g : List (List Int)) (hl : g.length ≤ 1000) (hrl : ∀ j, (row g j).length ≤ 1000) (w : World) (hg : Gr w v g) :
    Calls Tryd.prog 150 #[v] w fun e w' => ∃ u, e = .returned u ∧ SG w' w.heap.size u g ∧ Below w.heap.size w w' := by
  obtain ⟨u, rfl, hr⟩ := hg
  obtain ⟨p, c, rfl, _⟩ := hr.shape
  have START := Lib.hid (three_boxes w (.slice p g.length c))
  have HR := Lib.hid hr
  have HRL := Lib.hid hrl
  clear hr hrl
  go_enter Tryd.func150, Tryd.ntmps150
  go_upto_region 3 with fail
  go_loopw [4] (fun i wr => ∃ (k : Nat) (ov : Value) (vals : List Value), k ≤ g.length ∧ i = .int .i64 k ∧ Below w.heap.size w wr ∧ Below (w.heap.size + 1) wr wr ∧ w.heap.size + 1 + 2 ≤ wr.heap.size ∧ Box wr w.heap.size 29 (.slice p g.length c) ∧
      Box wr (w.heap.size + 1) 29 (.slice none 0 0) ∧ Box wr (w.heap.size + 1 + 1) 29 ov ∧ wr.ownsRow (w.heap.size + 1 + 2) 36 1 ov k vals ∧ vals.length = k ∧
      ∀ j, j < k → wr.ownsRow (w.heap.size + 1 + 2) 2 1 (vals.getD j undef) (row g j).length ((row g j).map (Value.int .i64)))
    (fun i _ => g.length - (intOf i).toNat)
  case atStart =>
    obtain ⟨W, rfl, h1, h2, h3, h4, h5⟩ := START.out
    exact ⟨0, _, [], Nat.zero_le _, rfl, h1, Below.refl _ _, by omega, h3, h4, h5, World.ownsRow_nil _ _ _ _, rfl, fun j hj => by omega⟩
  case round =>
    obtain ⟨k, ov, vals, hk, rfl, hbel, _, hsz, hbx, hb2, hb3, hown, hvl, hrows⟩ := hrel
    have Hvl := Lib.hid hvl
    have Hrows := Lib.hid hrows
    have Hb2 := Lib.hid hb2
    have Hb3 := Lib.hid hb3
    have Hbx := Lib.hid hbx
    have Hown := Lib.hid hown
    have cbx := hbx.cell
    obtain ⟨p9, c9, rfl⟩ : ∃ p c, ov = .slice p k c := by
      rcases hown.2 with ⟨h1, h2⟩ | ⟨g1, cap, cur, h1, _⟩
      · exact ⟨none, 0, by rw [h1, h2]⟩
      · exact ⟨_, _, h1⟩
    clear hvl hrows hb3 hb2 hown hbx
    by_cases hlt : k < g.length
    · obtain ⟨b, o, rp, rc, rfl, hcell, hnums⟩ := (HR.out.below hbel).get hlt
      change wr.cell? _ = some (.slice rp (row g k).length rc) at hcell
      change Nums wr _ _ (.slice rp (row g k).length rc) (row g k) at hnums
      have Hnums := Lib.hid hnums
      obtain ⟨c3, f3, _, _⟩ := Hb3.out
      obtain ⟨m, hm⟩ : ∃ m, m = (row g k).length := ⟨_, rfl⟩
      have Hm := Lib.hid hm
      have hrk := HRL.out k
      rw [← hm] at hcell Hnums hrk
      clear hnums hm
      go_upto_region 5 with fail
      go_region_law (first
        | (go_simp; go_at_call 190; refine (l1Copy_any _ m ((row g k).map (Value.int .i64)) (fun x hx => by obtain ⟨y, _, rfl⟩ := List.mem_map.1 hx; rfl) (by rw [List.length_map]; exact Hm.out.symm) _ (Sl.below (show Sl wr 2 (.slice rp m rc) m _ from (by have h := Hnums.out; unfold Nums at h; rw [← Hm.out] at h; exact h)) (below_dN (Below.refl _ _) 1))).mono ?_; rintro e w5 ⟨rv, rfl, hown5, hb5⟩; obtain ⟨rvp, rvc, hrv⟩ : ∃ p c, rv = .slice p m c := (by rcases hown5.2 with ⟨rfl, h0⟩ | ⟨b, c, _, rfl, _⟩; exact ⟨none, 0, by rw [h0]⟩; exact ⟨_, _, rfl⟩); subst hrv; have hb5' : Below wr.heap.size wr w5 := ⟨hb5.os, hb5.tape, hb5.output, hb5.size, hb5.block⟩; have hown5' : w5.ownsRow wr.heap.size 2 1 (.slice rvp m rvc) m ((row g k).map (Value.int .i64)) := hown5; have hownc := ownsRow_below Hown.out hb5'; have hs5 := hb5'.size; have hbx5 := hb5'.at' c3; have hbx5a := fun o => (below_alloc w5 o).at' hbx5; have hcx5 := hb5'.at' cbx; have hcx5a := fun o => (below_alloc w5 o).at' hcx5; have hcl5 := hb5'.at' hcell; clear hb5 hown5)
        | (refine step_app1s ty_rows rfl rfl rfl hownc rfl rfl (by omega) (by omega) ?_; intro b7 c8 w7 hown7 hg7; have hb7 := below_grown (Below.refl (w.heap.size + 1 + 2) w5) hownc hg7 (Nat.le_refl _) (by omega); have hob7 := hb7.at (by omega) hbx5; have hof7 := (hb7.frozen (p := ⟨w.heap.size + 1 + 1, 0, none⟩) (by show w.heap.size + 1 + 1 < _; omega)).trans ((hb5'.frozen (p := ⟨w.heap.size + 1 + 1, 0, none⟩) (by show w.heap.size + 1 + 1 < _; omega)).trans f3)))
      all_goals go_wp2
      all_goals go_roundw
      all_goals first
        | (simp [intOf]; omega)
        | skip
      all_goals
        have hb0 : Below (w.heap.size + 1) wr wr := Below.refl _ _
        obtain ⟨W, hW, r1, r2, r3, r4, r5, r6⟩ := box_stepB hb0 hsz hb5' Hb2.out Hb3.out Hown.out hown7 hg7
        subst hW
        have hbW : Below w.heap.size w _ := hbel.trans (r1.mono (by omega))
        refine ⟨k + 1, _, _, by omega, by go_num, hbW, Below.refl _ _, r2, Hbx.out.below r1 (by omega), r3, r4, r5, by simp [Hvl.out], fun j hj => ?_⟩
        by_cases e : j = k
        · subst e
          rw [show (vals ++ [Value.slice rvp m rvc]).getD j undef = .slice rvp m rvc from by rw [← Hvl.out]; exact getD_append_last _ _ _]
          rw [← Hm.out]
          exact ownsRow_base (r6 _ _ _ _ _ hown5') (by omega)
        · rw [getD_append_left _ _ _ _ (by have := Hvl.out; omega)]
          exact r6 _ _ _ _ _ (ownsRow_below (Hrows.out j (by omega)) hb5')
    · obtain rfl : k = g.length := by omega
      obtain ⟨k2c, k2f, _⟩ := Hb2.out
      obtain ⟨k3c, k3f, _⟩ := Hb3.out
      go_wp2
      refine bodyPost_ret (v := .agg #[.slice p9 g.length c9]) (by simp [results, Tryd.results150, go_sem, k2c]) rfl ⟨_, rfl, ⟨_, vals, rfl, Hvl.out, ?_, fun j hj => ?_⟩, ?_⟩
      · exact ownsRow_base (ownsRow_setBox Hown.out Hb2.out (by decide) _) (by omega)
      · exact Nums.of_owns (ownsRow_setBox (Hrows.out j hj) Hb2.out (by decide) _) rfl (by have := HRL.out j; omega)
      · exact hbel.setCell (by show w.heap.size ≤ w.heap.size + 1; omega) _

end Go.Proofs.YtmakhapdlkbbnaaDoor

/- Walks: the reference's greater of two, a list without a number, an edge, a vertex cut; the laws' count of edges. -/
namespace Go.Proofs.YtmakhapdlkbbnaaDoor
open Go.RowKit

set_option maxRecDepth 100000 in
theorem l1ThereM_any (v : Value) (g : List (List Int)) (x : Int) (w : World) (hg : Gr w v g) (hn : g.length ≤ 1000000000) :
    Calls Tryd.prog 115 #[v, .int .i64 x] w fun e w' => e = .returned (.bool (dec (0 ≤ x ∧ x < g.length))) ∧ Below w.heap.size w w' := by
  have hg0 := hg
  obtain ⟨u, rfl, hr⟩ := hg
  obtain ⟨p, c, rfl, _⟩ := hr.shape
  have hbA := Lib.hid (below_alloc w (.cells #[.slice p g.length c] 29))
  have HG := Lib.hid (hg0.below hbA.out)
  clear hr hg0
  go_enter Tryd.func115, Tryd.ntmps115
  go_wp2_with (first
    | (go_at_call 170; refine (l1In_any _ _ _ _).mono ?_; rintro e w3 ⟨rfl, rfl⟩)
    | (go_at_call 87; refine (l1Size_any _ g _ HG.out).mono ?_; rintro e w2 ⟨rfl, hb2⟩))
  go_ret
  exact ⟨ret_bool (dec_congr (by omega)), hbA.out.trans (hb2.mono hbA.out.size)⟩

theorem minMn_any (x y : Int) (w : World) : Calls Tryd.prog 148 #[.int .i64 x, .int .i64 y] w fun e w' => e = .returned (.int .i64 (min x y)) ∧ w = w' := by
  by_cases h : x < y
  · have hm : Hid (min x y = x) := Lib.hid (by omega)
    go_enter Tryd.func148, Tryd.ntmps148
    go_wp2
    go_ret
    exact ⟨by rw [hm.out]; rfl, rfl⟩
  · have hm : Hid (min x y = y) := Lib.hid (by omega)
    go_enter Tryd.func148, Tryd.ntmps148
    go_wp2
    go_ret
    exact ⟨by rw [hm.out]; rfl, rfl⟩
theorem maxMn_any (x y : Int) (w : World) : Calls Tryd.prog 149 #[.int .i64 x, .int .i64 y] w fun e w' => e = .returned (.int .i64 (max x y)) ∧ w = w' := by
  by_cases h : y < x
  · have hm : Hid (max x y = x) := Lib.hid (by omega)
    go_enter Tryd.func149, Tryd.ntmps149
    go_wp2
    go_ret
    exact ⟨by rw [hm.out]; rfl, rfl⟩
  · have hm : Hid (max x y = y) := Lib.hid (by omega)
    go_enter Tryd.func149, Tryd.ntmps149
    go_wp2
    go_ret
    exact ⟨by rw [hm.out]; rfl, rfl⟩

set_option maxRecDepth 100000 in
set_option maxHeartbeats 1000000 in
theorem l2Without_any (v : Value) (L : List Nat) (z : Int) (y : Nat) (hz : z = y) (hl : L.length ≤ 1000) (w : World) (hn : Nums w 2 .i64 v (natInts L)) :
    Calls Tryd.prog 147 #[v, .int .i64 z] w fun e w' => ∃ u, e = .returned u ∧ w'.ownsRow w.heap.size 2 1 u (L.filter fun x => x != y).length ((natInts (L.filter fun x => x != y)).map (Value.int .i64)) ∧ Below w.heap.size w w' := by
  subst hz
  obtain ⟨lp, lc, rfl, _⟩ := id hn.shape
  rw [natInts_length]
  have HN := Lib.hid hn
  have START := Lib.hid (ownsRow_empty w 2 1)
  clear hn
  go_enter Tryd.func147, Tryd.ntmps147
  go_wp2_with fail
  go_loopw [5, 6] (fun ov iv wr => ∃ k : Nat, k ≤ L.length ∧ iv = .int .i64 k ∧ wr.ownsRow w.heap.size 2 1 ov ((L.take k).filter fun x => x != y).length ((natInts ((L.take k).filter fun x => x != y)).map (Value.int .i64)) ∧ Below w.heap.size w wr) (fun _ iv _ => L.length - (intOf iv).toNat)
  case atStart => exact ⟨0, Nat.zero_le _, rfl, START.out, below_alloc _ _⟩
  case round =>
    clear START
    obtain ⟨k, hk, rfl, hown, hb⟩ := hrel
    have HO := Lib.hid hown
    have HB := Lib.hid hb
    by_cases hlt : k < L.length
    · obtain ⟨qb, qo, rfl, hq⟩ := Nums.get (k := k) (by have := HN.out.below hb; rw [natInts_length] at this; exact this) (by rw [natInts_length]; exact hlt)
      have e1 : (natInts L)[k]'(by rw [natInts_length]; exact hlt) = ((L[k] : Nat) : Int) := by simp [natInts]
      rw [e1] at hq
      have hT : L.take (k + 1) = L.take k ++ [L[k]] := take_snoc' L k hlt
      generalize L[k] = x at hq hT
      obtain ⟨F, hF⟩ : ∃ F, F = (L.take k).filter fun x => x != y := ⟨_, rfl⟩
      have hFl : F.length ≤ 1000 := by
        rw [hF]
        have := List.length_filter_le (fun x => x != y) (L.take k)
        rw [List.length_take] at this
        omega
      rw [← hF] at HO
      have HFE := Lib.hid hF
      obtain ⟨fl, hfl⟩ : ∃ fl, fl = F.length := ⟨_, rfl⟩
      have HFL := Lib.hid hfl
      rw [← hfl] at HO hFl
      have HT := Lib.hid hT
      clear hown hb e1 hT hF hfl
      by_cases hxy : x = y
      · have hne : ((x : Int) != (y : Int)) = false := by rw [hxy]; simp
        have HK : Hid ((L.take (k + 1)).filter (fun x => x != y) = F) := Lib.hid (by rw [HT.out, List.filter_append, HFE.out]; simp [hxy])
        clear hxy
        go_wp2_with fail
        go_roundw
        case rel => exact ⟨k + 1, by omega, by go_num, by rw [HK.out, ← HFL.out]; exact HO.out, HB.out⟩
        case measure => simp [intOf]; omega
      · have hne : ((x : Int) != (y : Int)) = true := bne_iff_ne.2 (by omega)
        have HK : Hid ((L.take (k + 1)).filter (fun x => x != y) = F ++ [x]) := Lib.hid (by rw [HT.out, List.filter_append, HFE.out]; simp [hxy])
        clear hxy
        go_wp2_with (at_builtin; refine wpList_app1s ty_i64 rfl rfl rfl HO.out rfl rfl (by omega) HB.out.size ?_; intro b7 c7 w7 hown7 hg7 _)
        go_roundw
        case rel => exact ⟨k + 1, by omega, by go_num, by rw [HK.out, List.length_append, ← HFL.out]; simpa [natInts] using hown7, below_grown HB.out HO.out hg7 (Nat.le_refl _) HB.out.size⟩
        case measure => simp [intOf]; omega
    · obtain rfl : k = L.length := by omega
      rw [List.take_length] at HO
      clear hown hb
      go_wp2_with fail
      go_ret
      exact ⟨_, rfl, HO.out, HB.out⟩

set_option maxRecDepth 100000 in
set_option maxHeartbeats 2000000 in
theorem specEdgeIn_yes (v : Value) (g : List (List Int)) (y z : Int) (a b : Nat) (hy : y = a) (hz : z = b) (hok : GOk g) (ha : a < g.length) (hb : b < g.length) (hE : ofG g a b = true) (w : World) (hg : Gr w v g) :
    Calls Tryd.prog 39 #[v, .int .i64 y, .int .i64 z] w fun e w' => e = .returned (.bool true) ∧ Below w.heap.size w w' := by
  subst hy; subst hz
  have hg0 := hg
  obtain ⟨u, rfl, hr⟩ := hg
  obtain ⟨p, c, rfl, _⟩ := hr.shape
  have hbA := Lib.hid (below_alloc w (.cells #[.slice p g.length c] 29))
  have HG := Lib.hid (hg0.below hbA.out)
  have BX := Lib.hid (Box.new w (.slice p g.length c) 29)
  have h16 := hok.le
  have HD := Lib.hid (dec_true hok)
  have HDA := Lib.hid (dec_true (show (0 : Int) ≤ (a : Int) ∧ (a : Int) < g.length from ⟨by omega, by omega⟩))
  have HDB := Lib.hid (dec_true (show (0 : Int) ≤ (b : Int) ∧ (b : Int) < g.length from ⟨by omega, by omega⟩))
  have HDE := Lib.hid (dec_true (show (b : Int) ∈ row g a by simpa [ofG] using hE))
  clear hr hg0 hok hE
  go_enter Tryd.func39, Tryd.ntmps39
  go_wp2_with (first
    | (go_at_call 85; refine (specGraphOk_any _ g _ HG.out).mono ?_; rintro e w2 ⟨he, hb2⟩; rw [HD.out] at he; subst he; have c2 := (BX.out.keep hb2).cell)
    | (go_at_call 115; have hb3_ := hb3; refine (l1ThereM_any _ g (b : Int) _ ((HG.out.below hb2).below hb3_) (by omega)).mono ?_; rintro e w4 ⟨he, hb4⟩; rw [HDB.out] at he; subst he; have c4 := hb4.at' c3)
    | (go_at_call 115; refine (l1ThereM_any _ g (a : Int) _ (HG.out.below hb2) (by omega)).mono ?_; rintro e w3 ⟨he, hb3⟩; rw [HDA.out] at he; subst he; have c3 := hb3.at' c2)
    | (go_at_call 116; refine (l1Edge_any _ g _ _ a b rfl rfl ha _ (((HG.out.below hb2).below hb3).below hb4)).mono ?_; rintro e w5 ⟨he, hb5⟩; rw [HDE.out] at he; subst he))
  go_ret
  exact ⟨rfl, (((hbA.out.trans (hb2.mono hbA.out.size)).trans (hb3.mono (Nat.le_trans hbA.out.size hb2.size))).trans (hb4.mono (Nat.le_trans (Nat.le_trans hbA.out.size hb2.size) hb3.size))).trans (hb5.mono (Nat.le_trans (Nat.le_trans (Nat.le_trans hbA.out.size hb2.size) hb3.size) hb4.size))⟩

theorem gok_rowsMn {g : List (List Int)} (hok : GOk g) (j : Nat) : (row g j).length ≤ 16 := by
  have h16 := hok.le
  by_cases hj : j < g.length
  · have := setIn_length (by omega) (hok.sets j hj).1
    omega
  · have : row g j = [] := by simp [row, List.getElem?_eq_none (show g.length ≤ j by omega)]
    rw [this]; exact Nat.zero_le _
/-- How many neighbours the first vertices have. -/
def lenTo (g : List (List Int)) (k : Nat) : Nat := ((List.range k).map fun v => (row g v).length).sum
theorem lenTo_succ (g : List (List Int)) (k : Nat) : lenTo g (k + 1) = lenTo g k + (row g k).length := by simp [lenTo, List.range_succ]
set_option maxRecDepth 100000 in
set_option maxHeartbeats 1000000 in
theorem w9Edges_any (v : Value) (g : List (List Int)) (hok : GOk g) (q : Nat) (hq : lenTo g g.length = 2 * q) (w : World) (hg : Gr w v g) :
    Calls Tryd.prog 60 #[v] w fun e w' => e = .returned (.int .i64 (q : Int)) ∧ Below w.heap.size w w' := by
  have hg0 := hg
  obtain ⟨u, rfl, hr⟩ := hg
  obtain ⟨p, c, rfl, _⟩ := hr.shape
  obtain ⟨W0, hW0⟩ : ∃ W0, W0 = w.alloc (.cells #[.slice p g.length c] 29) := ⟨_, rfl⟩
  have hbA : Hid (Below w.heap.size w W0) := Lib.hid (by rw [hW0]; exact below_alloc _ _)
  have HR := Lib.hid (hr.below hbA.out)
  have BX : Hid (Box W0 w.heap.size 29 (.slice p g.length c)) := Lib.hid (by rw [hW0]; exact Box.new _ _ _)
  have h16 := hok.le
  have HLE : Hid (∀ j, (row g j).length ≤ 16) := Lib.hid (fun j => by
    by_cases hj : j < g.length
    · have := setIn_length (by omega) (hok.sets j hj).1
      omega
    · have : row g j = [] := by simp [row, List.getElem?_eq_none (show g.length ≤ j by omega)]
      rw [this]; exact Nat.zero_le _)
  have HQ := Lib.hid hq
  clear hr hg0 hok hq
  go_enter Tryd.func60, Tryd.ntmps60
  go_upto_region 1 with fail
  rw [← hW0]
  clear hW0
  have cx := BX.out.cell
  go_wp2_with fail
  go_loopw [3, 4] (fun nv iv wr => ∃ (k n : Nat), k ≤ g.length ∧ n ≤ 16 * k ∧ iv = .int .i64 k ∧ nv = .int .i64 (n : Int) ∧ Hid (n = lenTo g k) ∧ wr = W0) (fun _ iv _ => g.length - (intOf iv).toNat)
  case atStart => exact ⟨0, 0, Nat.zero_le _, Nat.zero_le _, rfl, rfl, Lib.hid rfl, rfl⟩
  case round =>
    obtain ⟨k, n, hk, hn, rfl, rfl, HE, rfl⟩ := hrel
    by_cases hlt : k < g.length
    · obtain ⟨b, o, rp, rc, hgp, hcell, _⟩ := HR.out.get hlt
      subst hgp
      replace hcell : World.cell? _ ⟨b, o + k, none⟩ = some (.slice rp (row g k).length rc) := hcell
      have hl := HLE.out k
      have HS := Lib.hid (lenTo_succ g k)
      obtain ⟨rl, hrl⟩ : ∃ rl, rl = (row g k).length := ⟨_, rfl⟩
      have HRL := Lib.hid hrl
      rw [← hrl] at hcell hl
      have hwr : IntKind.i64.wrap ((n : Int) + (rl : Int)) = (n : Int) + (rl : Int) := by rw [IntKind.wrap_i64]; omega
      clear hrl
      go_wp2_with fail
      go_roundw
      case rel => exact ⟨k + 1, n + rl, by omega, by omega, by go_num, by first | rfl | (congr 1; omega), Lib.hid (by rw [HS.out, ← HE.out, HRL.out]), by first | trivial | rfl⟩
      case measure => simp [intOf]; omega
    · obtain rfl : k = g.length := by omega
      have hn2 : n = 2 * q := by rw [HE.out]; exact HQ.out
      have htd : Int.tdiv (n : Int) 2 = (q : Int) := by
        have h := (Int.ofNat_tdiv n 2).symm
        rw [show n / 2 = q by omega] at h
        exact h
      have hq8 : q ≤ 128 := by omega
      have HN2 := Lib.hid hn2
      clear hn2
      go_wp2_with fail
      go_ret
      exact ⟨by first | rfl | (congr 2; have := HN2.out; omega) | (rw [htd]), hbA.out⟩

set_option maxRecDepth 100000 in
set_option maxHeartbeats 4000000 in
theorem specCutVertex_yes (v : Value) (g : List (List Int)) (z : Int) (b : Nat) (hz : z = b) (hok : GOk g) (hb : b < g.length) (h2 : 2 ≤ g.length) (w : World) (hg : Gr w v g) :
    Calls Tryd.prog 57 #[v, .int .i64 z] w fun e w' => ∃ u, e = .returned (.tuple #[u, .bool true]) ∧ SG w' w.heap.size u (indL g (natInts (restN g.length b))) ∧ Below w.heap.size w w' := by
  subst hz
  have hg0 := hg
  obtain ⟨u, rfl, hr⟩ := hg
  obtain ⟨p, c, rfl, _⟩ := hr.shape
  obtain ⟨W0, hW0, hbA, SZ0, B0, B1⟩ := two_boxesM w (.slice p g.length c) (.slice none 0 0) 29 29
  have HBA := Lib.hid hbA
  have HG := Lib.hid (hg0.below hbA)
  have HX0 := Lib.hid B0
  have HX1 := Lib.hid B1
  have h16 := hok.le
  have HD := Lib.hid (dec_true hok)
  have HDB := Lib.hid (dec_true (show (0 : Int) ≤ (b : Int) ∧ (b : Int) < g.length from ⟨by omega, by omega⟩))
  have hn1 : ((g.length : Int) == 1) = false := beq_eq_false_iff_ne.2 (by omega)
  have hsym := indE_sym hok (l := natInts (restN g.length b)) fun x hx => by
    obtain ⟨i, hi, rfl⟩ := mem_natInts.1 hx
    have := (mem_restN.1 hi).1
    omega
  have HSY := Lib.hid hsym
  have HLT : Hid (∀ x ∈ natInts (restN g.length b), 0 ≤ x ∧ x < g.length) := Lib.hid (fun x hx => by
    obtain ⟨i, hi, rfl⟩ := mem_natInts.1 hx
    have := (mem_restN.1 hi).1
    omega)
  have HRE : Hid ((List.range g.length).filter (fun x => x != b) = restN g.length b) := Lib.hid rfl
  have HRL : Hid ((restN g.length b).length ≤ 16) := Lib.hid (Nat.le_trans (List.length_filter_le _ _) (by rw [List.length_range]; exact h16))
  clear hr hg0 hok hbA B0 B1 hsym SZ0
  go_enter Tryd.func57, Tryd.ntmps57
  go_upto_region 1 with fail
  rw [← hW0]
  clear hW0
  have c0 := HX0.out.cell
  go_upto_region 3 with (first
    | (go_at_call 85; refine (specGraphOk_any _ g _ HG.out).mono ?_; rintro e w2 ⟨he, hb2⟩; rw [HD.out] at he; subst he; have c2 := hb2.at' c0)
    | (go_at_call 115; refine (l1ThereM_any _ g (b : Int) _ (HG.out.below hb2) (by omega)).mono ?_; rintro e w3 ⟨he, hb3⟩; rw [HDB.out] at he; subst he; have c3 := hb3.at' c2)
    | (go_at_call 87; refine (l1Size_any _ g _ ((HG.out.below hb2).below hb3)).mono ?_; rintro e w4 ⟨rfl, hb4⟩; have c4 := hb4.at' c3))
  have HB4 : Hid (Below W0.heap.size W0 w4) := Lib.hid ((hb2.trans (hb3.mono hb2.size)).trans (hb4.mono (Nat.le_trans hb2.size hb3.size)))
  have HG4 := Lib.hid (HG.out.below HB4.out)
  obtain ⟨nc, nf, nl, nB⟩ := HX1.out.keep HB4.out
  have cr := c4
  have nlt := HX1.out.lt
  have s4 := HB4.out.size
  clear hb2 hb3 hb4 c0 c2 c3 hn1 c4
  go_region_held3 (fun W => W.cell? ⟨w.heap.size, 0, none⟩ = some (.slice p g.length c))
    (first | exact cr | go_keep | exact BWD.at' cr | exact BWC.at' cr | exact BWB.at' cr | exact BWA.at' cr | exact (World.cell?_setCell_far _ _ _ _ (by show w.heap.size + 1 ≠ w.heap.size; omega)).trans (BWD.at' cr))
    (first
      | (go_at_call 87; refine (l1Size_any _ g _ (HG4.out.below (below_dN (Below.refl _ _) 1))).mono ?_; rintro e wa ⟨rfl, hbq⟩; have BWA : Below w4.heap.size w4 wa := (below_dN (Below.refl _ _) 1).trans hbq; clear hbq)
      | (go_at_call 100; refine (l1All_any _ g.length rfl (by omega) _).mono ?_; rintro e wb ⟨av, rfl, ho, hbq⟩; have HNA : Hid (Nums wb 2 .i64 av (natInts (List.range g.length))) := Lib.hid (Nums.of_owns ho (by rw [natInts_length, List.length_range]) (by omega)); have BWB : Below w4.heap.size w4 wb := BWA.trans (hbq.mono BWA.size); clear hbq ho)
      | (go_at_call 147; refine (l2Without_any _ (List.range g.length) _ b rfl (by rw [List.length_range]; omega) _ HNA.out).mono ?_; rintro e wc ⟨lv, rfl, ho, hbq⟩; rw [HRE.out] at ho; have HNL : Hid (Nums wc 2 .i64 lv (natInts (restN g.length b))) := Lib.hid (Nums.of_owns ho (by rw [natInts_length]) (by have := HRL.out; omega)); have BWC : Below w4.heap.size w4 wc := BWB.trans (hbq.mono BWB.size); clear hbq ho)
      | (go_at_call 146; refine (l2Of_any _ _ g (natInts (restN g.length b)) HLT.out (by rw [natInts_length]; have := HRL.out; omega) HSY.out _ (HG4.out.below BWC) HNL.out).mono ?_; rintro e wd ⟨u, rfl, hs, hbq⟩; obtain ⟨up, uc, rfl⟩ := hs.shape; have HSD := Lib.hid hs; have BWD : Below w4.heap.size w4 wd := BWC.trans (hbq.mono BWC.size); have nc4 := BWD.at' nc; have nB4 := (Box.keep ⟨nc, nf, nl, nB⟩ BWD); have nf4 := nB4.free; clear hbq hs))
  all_goals go_wp2
  have e0 := HBA.out.size
  refine bodyPost_ret (v := .tuple #[.agg #[.slice up (indL g (natInts (restN g.length b))).length uc], .bool true]) (by simp [results, Tryd.results57, go_sem, nc4]) rfl ⟨_, rfl, (HSD.out.setBox nB4 _).base (by have := BWC.size; omega), ?_⟩
  exact ((HBA.out.trans (HB4.out.mono e0)).trans (BWD.mono (by omega))).setCell (by show w.heap.size ≤ w.heap.size + 1; omega) _

end Go.Proofs.YtmakhapdlkbbnaaDoor
