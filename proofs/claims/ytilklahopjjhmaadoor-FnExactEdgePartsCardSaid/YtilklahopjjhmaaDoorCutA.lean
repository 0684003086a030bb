/- Walk: the reference's cut. -/
import Derived.Test.YtilklahopjjhmaaDoorBrP
import Derived.Test.YtilklahopjjhmaaDoorPsA
import Derived.Test.YtilklahopjjhmaaDoorImplR
namespace Go.Proofs.YtilklahopjjhmaaDoor
open Go.RowKit

theorem box_stepQ {w wr wc w7 : World} {B k b7 c8 : Nat} {ov x rv : Value} {vals : List Value}
    (hbel : Below B w wr) (hsz : B + 2 ≤ wr.heap.size) (hbc : Below wr.heap.size wr wc)
    (hb2 : Box wr B 30 x) (hb3 : Box wr (B + 1) 30 ov) (hown : wr.ownsRow (B + 2) 27 1 ov k vals)
    (hown7 : w7.ownsRow (B + 2) 27 1 (.slice (some ⟨b7, 0, none⟩) (k + 1) c8) (k + 1) (vals ++ [rv])) (hg7 : wc.grownBy w7 ov.ownBlock) :
    ∃ W, W = w7.setCell ⟨B + 1, 0, none⟩ (.slice (some ⟨b7, 0, none⟩) (k + 1) c8) ∧
      Below B w W ∧ B + 2 ≤ W.heap.size ∧ Box W B 30 x ∧ Box W (B + 1) 30 (.slice (some ⟨b7, 0, none⟩) (k + 1) c8) ∧ W.ownsRow (B + 2) 27 1 (.slice (some ⟨b7, 0, none⟩) (k + 1) c8) (k + 1) (vals ++ [rv]) ∧
      (∀ base size n v (xs : List Value), wc.ownsRow base 2 size v n xs → W.ownsRow base 2 size v n xs) := by
  have hownc := ownsRow_below hown hbc
  have hszc := hbc.size
  have hsz7 := hg7.size
  have hb7 : Below (B + 2) wc w7 := below_grown (Below.refl _ _) hownc hg7 (Nat.le_refl _) (by omega)
  have hb37 : Box w7 (B + 1) 30 ov := (hb3.keep hbc).below hb7 (by omega)
  have hb9 : Below (B + 1) w7 (w7.setCell ⟨B + 1, 0, none⟩ (.slice (some ⟨b7, 0, none⟩) (k + 1) c8)) := (Below.refl _ _).setCell (by show B + 1 ≤ B + 1; omega) _
  have hall : Below (B + 1) wr (w7.setCell ⟨B + 1, 0, none⟩ (.slice (some ⟨b7, 0, none⟩) (k + 1) c8)) := ((hbc.mono (by omega)).trans (hb7.mono (by omega))).trans hb9
  refine ⟨_, rfl, hbel.trans (hall.mono (by omega)), by have := hall.size; omega, hb2.below hall (by omega), hb37.set _, ownsRow_setBox hown7 hb37 (by decide) _, fun base size n v xs h => ?_⟩
  exact ownsRow_setBox (ownsRow_other h hownc hg7 (by decide)) hb37 (by decide) _

theorem three_boxesQ (w : World) (u : Value) : ∃ W, W = ((w.alloc (.cells #[u] 30)).alloc (.cells #[.slice none 0 0] 30)).alloc (.cells #[.slice none 0 0] 30) ∧ Below w.heap.size w W ∧ W.heap.size = w.heap.size + 3 ∧
    Box W w.heap.size 30 u ∧ Box W (w.heap.size + 1) 30 (.slice none 0 0) ∧ Box W (w.heap.size + 1 + 1) 30 (.slice none 0 0) := by
  refine ⟨_, rfl, below_alloc3 _ _ _ _, by rw [size_alloc, size_alloc, size_alloc], ((Box.new w _ _).alloc _).alloc _, ?_, ?_⟩
  · have := (Box.new (w.alloc (.cells #[u] 30)) (.slice none 0 0) 30).alloc (.cells #[.slice none 0 0] 30)
    rw [size_alloc] at this
    exact this
  · have := Box.new ((w.alloc (.cells #[u] 30)).alloc (.cells #[.slice none 0 0] 30)) (.slice none 0 0) 30
    rw [size_alloc, size_alloc] at this
    exact this

/-- A row without one end, where it is the other's. -/
def cutRow (r : List Int) (x u v : Nat) : List Int := let r1 := if x = u then lessL r v else r; if x = v then lessL r1 u else r1
theorem cutRow_mat {n : Nat} {E : Nat → Nat → Bool} {x u v : Nat} (hx : x < n) (huv : u ≠ v) : cutRow (row (matG n E) x) x u v = row (matG n (cutE E u v)) x := by
  rw [row_matG hx, row_matG hx]
  have hl : ∀ (l : List Nat) (q : Nat), lessL (natInts l) (q : Int) = natInts (l.filter fun y => y != q) := fun l q => by
    unfold lessL natInts
    rw [List.filter_map]
    congr 1
    refine List.filter_congr fun y _ => ?_
    rw [Bool.eq_iff_iff]
    simp only [Function.comp, bne_iff_ne, ne_eq]
    omega
  unfold cutRow
  by_cases e1 : x = u
  · subst e1
    rw [if_pos rfl, if_neg huv, hl, List.filter_filter]
    congr 1
    refine List.filter_congr fun y _ => ?_
    have : (x == v) = false := by simpa using huv
    simp [cutE, this, Bool.and_comm, bne]
  · rw [if_neg e1]
    by_cases e2 : x = v
    · subst e2
      rw [if_pos rfl, hl, List.filter_filter]
      congr 1
      refine List.filter_congr fun y _ => ?_
      have : (x == u) = false := by simpa using e1
      simp [cutE, this, Bool.and_comm, bne]
    · rw [if_neg e2]
      congr 1
      refine List.filter_congr fun y _ => ?_
      have a1 : (x == u) = false := by simpa using e1
      have a2 : (x == v) = false := by simpa using e2
      simp [cutE, a1, a2]
theorem cutRow_length (r : List Int) (x u v : Nat) : (cutRow r x u v).length ≤ r.length := by
  unfold cutRow
  dsimp only
  split <;> split
  · exact Nat.le_trans (lessL_length _ _) (lessL_length _ _)
  · exact lessL_length _ _
  · exact lessL_length _ _
  · exact Nat.le_refl _

set_option maxRecDepth 100000 in
set_option maxHeartbeats 4000000 in
theorem l19Cut_any (vv : Value) (g : List (List Int)) (u v : Nat) (y z : Int) (hy : y = u) (hz : z = v) (huv : u ≠ v) (hl : g.length ≤ 16) (hrl : ∀ j, (row g j).length ≤ 16) (w : World) (hg : Gr w vv g) :
    Calls Tryd.prog 34 #[vv, .int .i64 y, .int .i64 z] w fun e w' => ∃ r gg, e = .returned r ∧ SG w' w.heap.size r gg ∧ gg.length = g.length ∧ (∀ j, j < g.length → row gg j = cutRow (row g j) j u v) ∧ Below w.heap.size w w' := by
  subst hy; subst hz
  obtain ⟨g0, rfl, hr⟩ := hg
  obtain ⟨p, c, rfl, _⟩ := hr.shape
  have START := Lib.hid (three_boxesQ w (.slice p g.length c))
  have HR := Lib.hid hr
  have HRL := Lib.hid hrl
  clear hr hrl
  go_enter Tryd.func34, Tryd.ntmps34
  go_wp2
  go_loopw [8] (fun i wr => ∃ (k : Nat) (ov : Value) (vals : List Value), k ≤ g.length ∧ i = .int .i64 k ∧ Below w.heap.size w wr ∧ w.heap.size + 1 + 2 ≤ wr.heap.size ∧ Box wr w.heap.size 30 (.slice p g.length c) ∧
      Box wr (w.heap.size + 1) 30 (.slice none 0 0) ∧ Box wr (w.heap.size + 1 + 1) 30 ov ∧ wr.ownsRow (w.heap.size + 1 + 2) 27 1 ov k vals ∧ vals.length = k ∧
      ∀ j, j < k → wr.ownsRow (w.heap.size + 1 + 2) 2 1 (vals.getD j undef) (cutRow (row g j) j u v).length ((cutRow (row g j) j u v).map (Value.int .i64)))
    (fun i _ => g.length - (intOf i).toNat)
  case atStart =>
    obtain ⟨W, rfl, h1, h2, h3, h4, h5⟩ := START.out
    exact ⟨0, _, [], Nat.zero_le _, rfl, h1, by omega, h3, h4, h5, World.ownsRow_nil _ _ _ _, rfl, fun j hj => by omega⟩
  case round =>
    obtain ⟨k, ov, vals, hk, rfl, hbel, hsz, hbx, hb2, hb3, hown, hvl, hrows⟩ := hrel
    have Hvl := Lib.hid hvl
    have cbx := hbx.cell
    have cb3 := hb3.cell
    obtain ⟨p9, c9, rfl⟩ : ∃ p c, ov = .slice p k c := by
      rcases hown.2 with ⟨h1, h2⟩ | ⟨g1, cap, cur, h1, _⟩
      · exact ⟨none, 0, by rw [h1, h2]⟩
      · exact ⟨_, _, h1⟩
    have HREL := Lib.hid (And.intro hbx (And.intro hb2 (And.intro hb3 (And.intro hown hrows))))
    have Hbel := Lib.hid hbel
    clear hvl hrows hb3 hb2 hown hbx
    by_cases hlt : k < g.length
    · obtain ⟨b, o, rp, rc, rfl, hcell, hnums⟩ := (HR.out.below hbel).get hlt
      change wr.cell? _ = some (.slice rp (row g k).length rc) at hcell
      change Nums wr _ _ (.slice rp (row g k).length rc) (row g k) at hnums
      have Hnums := Lib.hid hnums
      have hrk := HRL.out k
      clear hnums hbel
      obtain ⟨Q, hQ⟩ : ∃ Q, cutRow (row g k) k u v = Q := ⟨_, rfl⟩
      have HQ := Lib.hid hQ
      obtain ⟨m, hm⟩ : ∃ m, m = Q.length := ⟨_, rfl⟩
      have Hm := Lib.hid hm
      clear hm hQ
      by_cases hku : k = u
      · have hb : ((k : Int) == (u : Int)) = true := by simp [hku]
        have hb2 : ((k : Int) == (v : Int)) = false := by simp; omega
        have HQ1 : Hid (lessL (row g k) v = Q) := Lib.hid (by rw [← HQ.out]; unfold cutRow; rw [if_pos hku, if_neg (by omega)])
        clear hku
        go_upto_region 10 with (go_at_call 46; refine (l19Less_any _ (row g k) v _ Hnums.out).mono ?_; rintro e w4 ⟨u4, rfl, ho4, hb4⟩; rw [HQ1.out, ← Hm.out] at ho4; obtain ⟨r2p, r2c, rfl⟩ := owns_shapeA ho4)
        have HN2 : Hid (Nums w4 2 .i64 (.slice r2p m r2c) Q) := Lib.hid (Nums.of_owns ho4 Hm.out (by have := lessL_length (row g k) v; rw [HQ1.out, ← Hm.out] at this; omega))
        have HBc := Lib.hid hb4
        clear ho4 hb4 cbx cb3 hcell
        have hszc : w.heap.size + 1 + 2 ≤ w4.heap.size := Nat.le_trans hsz HBc.out.size
        have hbelc : Below w.heap.size w w4 := Hbel.out.trans (HBc.out.mono Hbel.out.size)
        have Hbx := Lib.hid (HREL.out.1.keep HBc.out)
        have Hb2 := Lib.hid (HREL.out.2.1.keep HBc.out)
        have Hb3 := Lib.hid (HREL.out.2.2.1.keep HBc.out)
        have Hown := Lib.hid (ownsRow_below HREL.out.2.2.2.1 HBc.out)
        have Hrows : Hid (∀ j, j < k → w4.ownsRow (w.heap.size + 1 + 2) 2 1 (vals.getD j undef) (cutRow (row g j) j u v).length ((cutRow (row g j) j u v).map (Value.int .i64))) := Lib.hid fun j hj => ownsRow_below (HREL.out.2.2.2.2 j hj) HBc.out
        have cbx := Hbx.out.cell
        obtain ⟨c3, f3, _, _⟩ := Hb3.out
        clear hsz
        go_region_law (first
          | (go_simp; go_at_call 57; refine (l1Copy_any _ m (Q.map (Value.int .i64)) (fun x hx => by obtain ⟨y, _, rfl⟩ := List.mem_map.1 hx; rfl) (by rw [List.length_map]; exact Hm.out.symm) _ (Sl.below (show Sl w4 2 (.slice r2p m r2c) m _ from (by have h := HN2.out; unfold Nums at h; rw [← Hm.out] at h; exact h)) (below_dN (Below.refl _ _) 1))).mono ?_; rintro e w5 ⟨rv, rfl, hown5, hb5⟩; obtain ⟨rvp, rvc, hrv⟩ : ∃ p c, rv = .slice p m c := (by rcases hown5.2 with ⟨rfl, h0⟩ | ⟨b, c, _, rfl, _⟩; exact ⟨none, 0, by rw [h0]⟩; exact ⟨_, _, rfl⟩); subst hrv; have hb5' : Below w4.heap.size w4 w5 := ⟨hb5.os, hb5.tape, hb5.output, hb5.size, hb5.block⟩; have hown5' : w5.ownsRow w4.heap.size 2 1 (.slice rvp m rvc) m (Q.map (Value.int .i64)) := hown5; have hownc := ownsRow_below Hown.out hb5'; have hs5 := hb5'.size; have hbx5 := hb5'.at' c3; have hbx5a := fun o => (below_alloc w5 o).at' hbx5; have hcx5 := hb5'.at' cbx; have hcx5a := fun o => (below_alloc w5 o).at' hcx5; clear hb5 hown5)
          | (refine step_app1s ty_rows rfl rfl rfl hownc rfl rfl (by omega) (by omega) ?_; intro b7 c8 w7 hown7 hg7; have hb7 := below_grown (Below.refl (w.heap.size + 1 + 2) w5) hownc hg7 (Nat.le_refl _) (by omega); have hob7 := hb7.at (by omega) hbx5; have hof7 := (hb7.frozen (p := ⟨w.heap.size + 1 + 1, 0, none⟩) (by show w.heap.size + 1 + 1 < _; omega)).trans ((hb5'.frozen (p := ⟨w.heap.size + 1 + 1, 0, none⟩) (by show w.heap.size + 1 + 1 < _; omega)).trans f3)))
        all_goals go_wp2
        all_goals go_roundw
        all_goals first
          | (simp [intOf]; omega)
          | skip
        all_goals
          have hb0 : Below (w.heap.size + 1) w4 w4 := Below.refl _ _
          obtain ⟨W, hW, r1, r2, r3, r4, r5, r6⟩ := box_stepQ hb0 hszc hb5' Hb2.out Hb3.out Hown.out hown7 hg7
          subst hW
          have hbW : Below w.heap.size w _ := hbelc.trans (r1.mono (by omega))
          refine ⟨k + 1, _, _, by omega, by go_num, hbW, r2, Hbx.out.below r1 (by omega), r3, r4, r5, by simp [Hvl.out], fun j hj => ?_⟩
          by_cases e : j = k
          · subst e
            rw [show (vals ++ [Value.slice rvp m rvc]).getD j undef = .slice rvp m rvc from by rw [← Hvl.out]; exact getD_append_last _ _ _]
            rw [HQ.out, ← Hm.out]
            exact ownsRow_base (r6 _ _ _ _ _ hown5') (by omega)
          · rw [getD_append_left _ _ _ _ (by have := Hvl.out; omega)]
            exact r6 _ _ _ _ _ (ownsRow_below (Hrows.out j (by omega)) hb5')
      by_cases hkv : k = v
      · have hb : ((k : Int) == (u : Int)) = false := by simp; omega
        have hb2 : ((k : Int) == (v : Int)) = true := by simp [hkv]
        have HQ1 : Hid (lessL (row g k) u = Q) := Lib.hid (by rw [← HQ.out]; unfold cutRow; rw [if_pos hkv, if_neg hku])
        clear hku hkv
        go_upto_region 10 with (go_at_call 46; refine (l19Less_any _ (row g k) u _ Hnums.out).mono ?_; rintro e w4 ⟨u4, rfl, ho4, hb4⟩; rw [HQ1.out, ← Hm.out] at ho4; obtain ⟨r2p, r2c, rfl⟩ := owns_shapeA ho4)
        have HN2 : Hid (Nums w4 2 .i64 (.slice r2p m r2c) Q) := Lib.hid (Nums.of_owns ho4 Hm.out (by have := lessL_length (row g k) u; rw [HQ1.out, ← Hm.out] at this; omega))
        have HBc := Lib.hid hb4
        clear ho4 hb4 cbx cb3 hcell
        have hszc : w.heap.size + 1 + 2 ≤ w4.heap.size := Nat.le_trans hsz HBc.out.size
        have hbelc : Below w.heap.size w w4 := Hbel.out.trans (HBc.out.mono Hbel.out.size)
        have Hbx := Lib.hid (HREL.out.1.keep HBc.out)
        have Hb2 := Lib.hid (HREL.out.2.1.keep HBc.out)
        have Hb3 := Lib.hid (HREL.out.2.2.1.keep HBc.out)
        have Hown := Lib.hid (ownsRow_below HREL.out.2.2.2.1 HBc.out)
        have Hrows : Hid (∀ j, j < k → w4.ownsRow (w.heap.size + 1 + 2) 2 1 (vals.getD j undef) (cutRow (row g j) j u v).length ((cutRow (row g j) j u v).map (Value.int .i64))) := Lib.hid fun j hj => ownsRow_below (HREL.out.2.2.2.2 j hj) HBc.out
        have cbx := Hbx.out.cell
        obtain ⟨c3, f3, _, _⟩ := Hb3.out
        clear hsz
        go_region_law (first
          | (go_simp; go_at_call 57; refine (l1Copy_any _ m (Q.map (Value.int .i64)) (fun x hx => by obtain ⟨y, _, rfl⟩ := List.mem_map.1 hx; rfl) (by rw [List.length_map]; exact Hm.out.symm) _ (Sl.below (show Sl w4 2 (.slice r2p m r2c) m _ from (by have h := HN2.out; unfold Nums at h; rw [← Hm.out] at h; exact h)) (below_dN (Below.refl _ _) 1))).mono ?_; rintro e w5 ⟨rv, rfl, hown5, hb5⟩; obtain ⟨rvp, rvc, hrv⟩ : ∃ p c, rv = .slice p m c := (by rcases hown5.2 with ⟨rfl, h0⟩ | ⟨b, c, _, rfl, _⟩; exact ⟨none, 0, by rw [h0]⟩; exact ⟨_, _, rfl⟩); subst hrv; have hb5' : Below w4.heap.size w4 w5 := ⟨hb5.os, hb5.tape, hb5.output, hb5.size, hb5.block⟩; have hown5' : w5.ownsRow w4.heap.size 2 1 (.slice rvp m rvc) m (Q.map (Value.int .i64)) := hown5; have hownc := ownsRow_below Hown.out hb5'; have hs5 := hb5'.size; have hbx5 := hb5'.at' c3; have hbx5a := fun o => (below_alloc w5 o).at' hbx5; have hcx5 := hb5'.at' cbx; have hcx5a := fun o => (below_alloc w5 o).at' hcx5; clear hb5 hown5)
          | (refine step_app1s ty_rows rfl rfl rfl hownc rfl rfl (by omega) (by omega) ?_; intro b7 c8 w7 hown7 hg7; have hb7 := below_grown (Below.refl (w.heap.size + 1 + 2) w5) hownc hg7 (Nat.le_refl _) (by omega); have hob7 := hb7.at (by omega) hbx5; have hof7 := (hb7.frozen (p := ⟨w.heap.size + 1 + 1, 0, none⟩) (by show w.heap.size + 1 + 1 < _; omega)).trans ((hb5'.frozen (p := ⟨w.heap.size + 1 + 1, 0, none⟩) (by show w.heap.size + 1 + 1 < _; omega)).trans f3)))
        all_goals go_wp2
        all_goals go_roundw
        all_goals first
          | (simp [intOf]; omega)
          | skip
        all_goals
          have hb0 : Below (w.heap.size + 1) w4 w4 := Below.refl _ _
          obtain ⟨W, hW, r1, r2, r3, r4, r5, r6⟩ := box_stepQ hb0 hszc hb5' Hb2.out Hb3.out Hown.out hown7 hg7
          subst hW
          have hbW : Below w.heap.size w _ := hbelc.trans (r1.mono (by omega))
          refine ⟨k + 1, _, _, by omega, by go_num, hbW, r2, Hbx.out.below r1 (by omega), r3, r4, r5, by simp [Hvl.out], fun j hj => ?_⟩
          by_cases e : j = k
          · subst e
            rw [show (vals ++ [Value.slice rvp m rvc]).getD j undef = .slice rvp m rvc from by rw [← Hvl.out]; exact getD_append_last _ _ _]
            rw [HQ.out, ← Hm.out]
            exact ownsRow_base (r6 _ _ _ _ _ hown5') (by omega)
          · rw [getD_append_left _ _ _ _ (by have := Hvl.out; omega)]
            exact r6 _ _ _ _ _ (ownsRow_below (Hrows.out j (by omega)) hb5')
      have hb : ((k : Int) == (u : Int)) = false := by simp; omega
      have hb2 : ((k : Int) == (v : Int)) = false := by simp; omega
      have hQ1 : row g k = Q := by rw [← HQ.out]; unfold cutRow; rw [if_neg hku, if_neg hkv]
      clear hku hkv
      have hm : (row g k).length = m := by rw [hQ1]; exact Hm.out.symm
      rw [hm] at hcell Hnums hrk
      clear hm
      go_upto_region 10 with fail
      have HN2 : Hid (Nums wr 2 .i64 (.slice rp m rc) Q) := Lib.hid (by rw [← hQ1]; exact Hnums.out)
      have HBc := Lib.hid (Below.refl wr.heap.size wr)
      clear cbx cb3 hQ1
      have hszc : w.heap.size + 1 + 2 ≤ wr.heap.size := Nat.le_trans hsz HBc.out.size
      have hbelc : Below w.heap.size w wr := Hbel.out.trans (HBc.out.mono Hbel.out.size)
      have Hbx := Lib.hid (HREL.out.1.keep HBc.out)
      have Hb2 := Lib.hid (HREL.out.2.1.keep HBc.out)
      have Hb3 := Lib.hid (HREL.out.2.2.1.keep HBc.out)
      have Hown := Lib.hid (ownsRow_below HREL.out.2.2.2.1 HBc.out)
      have Hrows : Hid (∀ j, j < k → wr.ownsRow (w.heap.size + 1 + 2) 2 1 (vals.getD j undef) (cutRow (row g j) j u v).length ((cutRow (row g j) j u v).map (Value.int .i64))) := Lib.hid fun j hj => ownsRow_below (HREL.out.2.2.2.2 j hj) HBc.out
      have cbx := Hbx.out.cell
      obtain ⟨c3, f3, _, _⟩ := Hb3.out
      clear hsz
      go_region_law (first
        | (go_simp; go_at_call 57; refine (l1Copy_any _ m (Q.map (Value.int .i64)) (fun x hx => by obtain ⟨y, _, rfl⟩ := List.mem_map.1 hx; rfl) (by rw [List.length_map]; exact Hm.out.symm) _ (Sl.below (show Sl wr 2 (.slice rp m rc) m _ from (by have h := HN2.out; unfold Nums at h; rw [← Hm.out] at h; exact h)) (below_dN (Below.refl _ _) 1))).mono ?_; rintro e w5 ⟨rv, rfl, hown5, hb5⟩; obtain ⟨rvp, rvc, hrv⟩ : ∃ p c, rv = .slice p m c := (by rcases hown5.2 with ⟨rfl, h0⟩ | ⟨b, c, _, rfl, _⟩; exact ⟨none, 0, by rw [h0]⟩; exact ⟨_, _, rfl⟩); subst hrv; have hb5' : Below wr.heap.size wr w5 := ⟨hb5.os, hb5.tape, hb5.output, hb5.size, hb5.block⟩; have hown5' : w5.ownsRow wr.heap.size 2 1 (.slice rvp m rvc) m (Q.map (Value.int .i64)) := hown5; have hownc := ownsRow_below Hown.out hb5'; have hs5 := hb5'.size; have hbx5 := hb5'.at' c3; have hbx5a := fun o => (below_alloc w5 o).at' hbx5; have hcx5 := hb5'.at' cbx; have hcx5a := fun o => (below_alloc w5 o).at' hcx5; clear hb5 hown5)
        | (refine step_app1s ty_rows rfl rfl rfl hownc rfl rfl (by omega) (by omega) ?_; intro b7 c8 w7 hown7 hg7; have hb7 := below_grown (Below.refl (w.heap.size + 1 + 2) w5) hownc hg7 (Nat.le_refl _) (by omega); have hob7 := hb7.at (by omega) hbx5; have hof7 := (hb7.frozen (p := ⟨w.heap.size + 1 + 1, 0, none⟩) (by show w.heap.size + 1 + 1 < _; omega)).trans ((hb5'.frozen (p := ⟨w.heap.size + 1 + 1, 0, none⟩) (by show w.heap.size + 1 + 1 < _; omega)).trans f3)))
      all_goals go_wp2
      all_goals go_roundw
      all_goals first
        | (simp [intOf]; omega)
        | skip
      all_goals
        have hb0 : Below (w.heap.size + 1) wr wr := Below.refl _ _
        obtain ⟨W, hW, r1, r2, r3, r4, r5, r6⟩ := box_stepQ hb0 hszc hb5' Hb2.out Hb3.out Hown.out hown7 hg7
        subst hW
        have hbW : Below w.heap.size w _ := hbelc.trans (r1.mono (by omega))
        refine ⟨k + 1, _, _, by omega, by go_num, hbW, r2, Hbx.out.below r1 (by omega), r3, r4, r5, by simp [Hvl.out], fun j hj => ?_⟩
        by_cases e : j = k
        · subst e
          rw [show (vals ++ [Value.slice rvp m rvc]).getD j undef = .slice rvp m rvc from by rw [← Hvl.out]; exact getD_append_last _ _ _]
          rw [HQ.out, ← Hm.out]
          exact ownsRow_base (r6 _ _ _ _ _ hown5') (by omega)
        · rw [getD_append_left _ _ _ _ (by have := Hvl.out; omega)]
          exact r6 _ _ _ _ _ (ownsRow_below (Hrows.out j (by omega)) hb5')
    · obtain rfl : k = g.length := by omega
      obtain ⟨k2c, k2f, _⟩ := HREL.out.2.1
      obtain ⟨k3c, k3f, _⟩ := HREL.out.2.2.1
      go_wp2
      refine bodyPost_ret (v := .agg #[.slice p9 g.length c9]) (by simp [results, Tryd.results34, go_sem, k2c]) rfl ⟨_, (List.range g.length).map (fun j => cutRow (row g j) j u v), rfl, ⟨_, vals, rfl, ?_, ?_, fun j hj => ?_⟩, ?_, fun j hj => ?_, ?_⟩
      · rw [Hvl.out, List.length_map, List.length_range]
      · rw [List.length_map, List.length_range]
        exact ownsRow_base (ownsRow_setBox HREL.out.2.2.2.1 HREL.out.2.1 (by decide) _) (by omega)
      · rw [List.length_map, List.length_range] at hj
        have e : row ((List.range g.length).map (fun j => cutRow (row g j) j u v)) j = cutRow (row g j) j u v := by simp [row, hj]
        rw [e]
        exact Nums.of_owns (ownsRow_setBox (HREL.out.2.2.2.2 j hj) HREL.out.2.1 (by decide) _) rfl (by have := cutRow_length (row g j) j u v; have := HRL.out j; omega)
      · rw [List.length_map, List.length_range]
      · simp [row, hj]
      · exact Hbel.out.setCell (by show w.heap.size ≤ w.heap.size + 1; omega) _

end Go.Proofs.YtilklahopjjhmaaDoor
