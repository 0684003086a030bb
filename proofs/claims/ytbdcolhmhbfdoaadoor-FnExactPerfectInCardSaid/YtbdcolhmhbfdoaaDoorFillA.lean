/- Walks: a copy of a graph; the neighbours that are left. -/
import Derived.Test.YtbdcolhmhbfdoaaDoorFillP
import Derived.Test.YtbdcolhmhbfdoaaDoorLinkC
import Derived.Test.YtbdcolhmhbfdoaaDoorImplR
namespace Go.Proofs.YtbdcolhmhbfdoaaDoor
open Go.RowKit

theorem box_stepB {w wr wc w7 : World} {B k b7 c8 : Nat} {ov x rv : Value} {vals : List Value}
    (hbel : Below B w wr) (hsz : B + 2 ≤ wr.heap.size) (hbc : Below wr.heap.size wr wc)
    (hb2 : Box wr B 27 x) (hb3 : Box wr (B + 1) 27 ov) (hown : wr.ownsRow (B + 2) 25 1 ov k vals)
    (hown7 : w7.ownsRow (B + 2) 25 1 (.slice (some ⟨b7, 0, none⟩) (k + 1) c8) (k + 1) (vals ++ [rv])) (hg7 : wc.grownBy w7 ov.ownBlock) :
    ∃ W, W = w7.setCell ⟨B + 1, 0, none⟩ (.slice (some ⟨b7, 0, none⟩) (k + 1) c8) ∧
      Below B w W ∧ B + 2 ≤ W.heap.size ∧ Box W B 27 x ∧ Box W (B + 1) 27 (.slice (some ⟨b7, 0, none⟩) (k + 1) c8) ∧ W.ownsRow (B + 2) 25 1 (.slice (some ⟨b7, 0, none⟩) (k + 1) c8) (k + 1) (vals ++ [rv]) ∧
      (∀ base size n v (xs : List Value), wc.ownsRow base 2 size v n xs → W.ownsRow base 2 size v n xs) := by
  have hownc := ownsRow_below hown hbc
  have hszc := hbc.size
  have hsz7 := hg7.size
  have hb7 : Below (B + 2) wc w7 := below_grown (Below.refl _ _) hownc hg7 (Nat.le_refl _) (by omega)
  have hb37 : Box w7 (B + 1) 27 ov := (hb3.keep hbc).below hb7 (by omega)
  have hb9 : Below (B + 1) w7 (w7.setCell ⟨B + 1, 0, none⟩ (.slice (some ⟨b7, 0, none⟩) (k + 1) c8)) := (Below.refl _ _).setCell (by show B + 1 ≤ B + 1; omega) _
  have hall : Below (B + 1) wr (w7.setCell ⟨B + 1, 0, none⟩ (.slice (some ⟨b7, 0, none⟩) (k + 1) c8)) := ((hbc.mono (by omega)).trans (hb7.mono (by omega))).trans hb9
  refine ⟨_, rfl, hbel.trans (hall.mono (by omega)), by have := hall.size; omega, hb2.below hall (by omega), hb37.set _, ownsRow_setBox hown7 hb37 (by decide) _, fun base size n v xs h => ?_⟩
  exact ownsRow_setBox (ownsRow_other h hownc hg7 (by decide)) hb37 (by decide) _

theorem three_boxes (w : World) (u : Value) : ∃ W, W = ((w.alloc (.cells #[u] 27)).alloc (.cells #[.slice none 0 0] 27)).alloc (.cells #[.slice none 0 0] 27) ∧ Below w.heap.size w W ∧ W.heap.size = w.heap.size + 3 ∧
    Box W w.heap.size 27 u ∧ Box W (w.heap.size + 1) 27 (.slice none 0 0) ∧ Box W (w.heap.size + 1 + 1) 27 (.slice none 0 0) := by
  refine ⟨_, rfl, below_alloc3 _ _ _ _, by rw [size_alloc, size_alloc, size_alloc], ((Box.new w _ _).alloc _).alloc _, ?_, ?_⟩
  · have := (Box.new (w.alloc (.cells #[u] 27)) (.slice none 0 0) 27).alloc (.cells #[.slice none 0 0] 27)
    rw [size_alloc] at this
    exact this
  · have := Box.new ((w.alloc (.cells #[u] 27)).alloc (.cells #[.slice none 0 0] 27)) (.slice none 0 0) 27
    rw [size_alloc, size_alloc] at this
    exact this

set_option maxRecDepth 100000 in
set_option maxHeartbeats 4000000 in
theorem l1CopyGraph_any (v : Value) (g : List (List Int)) (hl : g.length ≤ 1000) (hrl : ∀ j, (row g j).length ≤ 1000) (w : World) (hg : Gr w v g) :
    Calls Tryd.prog 76 #[v] w fun e w' => ∃ u, e = .returned u ∧ SG w' w.heap.size u g ∧ Below w.heap.size w w' := by
  obtain ⟨u, rfl, hr⟩ := hg
  obtain ⟨p, c, rfl, _⟩ := hr.shape
  have START := Lib.hid (three_boxes w (.slice p g.length c))
  have HR := Lib.hid hr
  have HRL := Lib.hid hrl
  clear hr hrl
  go_enter Tryd.func76, Tryd.ntmps76
  go_upto_region 3 with fail
  go_loopw [4] (fun i wr => ∃ (k : Nat) (ov : Value) (vals : List Value), k ≤ g.length ∧ i = .int .i64 k ∧ Below w.heap.size w wr ∧ Below (w.heap.size + 1) wr wr ∧ w.heap.size + 1 + 2 ≤ wr.heap.size ∧ Box wr w.heap.size 27 (.slice p g.length c) ∧
      Box wr (w.heap.size + 1) 27 (.slice none 0 0) ∧ Box wr (w.heap.size + 1 + 1) 27 ov ∧ wr.ownsRow (w.heap.size + 1 + 2) 25 1 ov k vals ∧ vals.length = k ∧
      ∀ j, j < k → wr.ownsRow (w.heap.size + 1 + 2) 2 1 (vals.getD j undef) (row g j).length ((row g j).map (Value.int .i64)))
    (fun i _ => g.length - (intOf i).toNat)
  case atStart =>
    obtain ⟨W, rfl, h1, h2, h3, h4, h5⟩ := START.out
    exact ⟨0, _, [], Nat.zero_le _, rfl, h1, Below.refl _ _, by omega, h3, h4, h5, World.ownsRow_nil _ _ _ _, rfl, fun j hj => by omega⟩
  case round =>
    obtain ⟨k, ov, vals, hk, rfl, hbel, _, hsz, hbx, hb2, hb3, hown, hvl, hrows⟩ := hrel
    have Hvl := Lib.hid hvl
    have Hrows := Lib.hid hrows
    have Hb2 := Lib.hid hb2
    have Hb3 := Lib.hid hb3
    have Hbx := Lib.hid hbx
    have Hown := Lib.hid hown
    have cbx := hbx.cell
    obtain ⟨p9, c9, rfl⟩ : ∃ p c, ov = .slice p k c := by
      rcases hown.2 with ⟨h1, h2⟩ | ⟨g1, cap, cur, h1, _⟩
      · exact ⟨none, 0, by rw [h1, h2]⟩
      · exact ⟨_, _, h1⟩
    clear hvl hrows hb3 hb2 hown hbx
    by_cases hlt : k < g.length
    · obtain ⟨b, o, rp, rc, rfl, hcell, hnums⟩ := (HR.out.below hbel).get hlt
      change wr.cell? _ = some (.slice rp (row g k).length rc) at hcell
      change Nums wr _ _ (.slice rp (row g k).length rc) (row g k) at hnums
      have Hnums := Lib.hid hnums
      obtain ⟨c3, f3, _, _⟩ := Hb3.out
      obtain ⟨m, hm⟩ : ∃ m, m = (row g k).length := ⟨_, rfl⟩
      have Hm := Lib.hid hm
      have hrk := HRL.out k
      rw [← hm] at hcell Hnums hrk
      clear hnums hm
      go_upto_region 5 with fail
      go_region_law (first
        | (go_simp; go_at_call 102; refine (l1Copy_any _ m ((row g k).map (Value.int .i64)) (fun x hx => by obtain ⟨y, _, rfl⟩ := List.mem_map.1 hx; rfl) (by rw [List.length_map]; exact Hm.out.symm) _ (Sl.below (show Sl wr 2 (.slice rp m rc) m _ from (by have h := Hnums.out; unfold Nums at h; rw [← Hm.out] at h; exact h)) (below_dN (Below.refl _ _) 1))).mono ?_; rintro e w5 ⟨rv, rfl, hown5, hb5⟩; obtain ⟨rvp, rvc, hrv⟩ : ∃ p c, rv = .slice p m c := (by rcases hown5.2 with ⟨rfl, h0⟩ | ⟨b, c, _, rfl, _⟩; exact ⟨none, 0, by rw [h0]⟩; exact ⟨_, _, rfl⟩); subst hrv; have hb5' : Below wr.heap.size wr w5 := ⟨hb5.os, hb5.tape, hb5.output, hb5.size, hb5.block⟩; have hown5' : w5.ownsRow wr.heap.size 2 1 (.slice rvp m rvc) m ((row g k).map (Value.int .i64)) := hown5; have hownc := ownsRow_below Hown.out hb5'; have hs5 := hb5'.size; have hbx5 := hb5'.at' c3; have hbx5a := fun o => (below_alloc w5 o).at' hbx5; have hcx5 := hb5'.at' cbx; have hcx5a := fun o => (below_alloc w5 o).at' hcx5; have hcl5 := hb5'.at' hcell; clear hb5 hown5)
        | (refine step_app1s ty_rows rfl rfl rfl hownc rfl rfl (by omega) (by omega) ?_; intro b7 c8 w7 hown7 hg7; have hb7 := below_grown (Below.refl (w.heap.size + 1 + 2) w5) hownc hg7 (Nat.le_refl _) (by omega); have hob7 := hb7.at (by omega) hbx5; have hof7 := (hb7.frozen (p := ⟨w.heap.size + 1 + 1, 0, none⟩) (by show w.heap.size + 1 + 1 < _; omega)).trans ((hb5'.frozen (p := ⟨w.heap.size + 1 + 1, 0, none⟩) (by show w.heap.size + 1 + 1 < _; omega)).trans f3)))
      all_goals go_wp2
      all_goals go_roundw
      all_goals first
        | (simp [intOf]; omega)
        | skip
      all_goals
        have hb0 : Below (w.heap.size + 1) wr wr := Below.refl _ _
        obtain ⟨W, hW, r1, r2, r3, r4, r5, r6⟩ := box_stepB hb0 hsz hb5' Hb2.out Hb3.out Hown.out hown7 hg7
        subst hW
        have hbW : Below w.heap.size w _ := hbel.trans (r1.mono (by omega))
        refine ⟨k + 1, _, _, by omega, by go_num, hbW, Below.refl _ _, r2, Hbx.out.below r1 (by omega), r3, r4, r5, by simp [Hvl.out], fun j hj => ?_⟩
        by_cases e : j = k
        · subst e
          rw [show (vals ++ [Value.slice rvp m rvc]).getD j undef = .slice rvp m rvc from by rw [← Hvl.out]; exact getD_append_last _ _ _]
          rw [← Hm.out]
          exact ownsRow_base (r6 _ _ _ _ _ hown5') (by omega)
        · rw [getD_append_left _ _ _ _ (by have := Hvl.out; omega)]
          exact r6 _ _ _ _ _ (ownsRow_below (Hrows.out j (by omega)) hb5')
    · obtain rfl : k = g.length := by omega
      obtain ⟨k2c, k2f, _⟩ := Hb2.out
      obtain ⟨k3c, k3f, _⟩ := Hb3.out
      go_wp2
      refine bodyPost_ret (v := .agg #[.slice p9 g.length c9]) (by simp [results, Tryd.results76, go_sem, k2c]) rfl ⟨_, rfl, ⟨_, vals, rfl, Hvl.out, ?_, fun j hj => ?_⟩, ?_⟩
      · exact ownsRow_base (ownsRow_setBox Hown.out Hb2.out (by decide) _) (by omega)
      · exact Nums.of_owns (ownsRow_setBox (Hrows.out j hj) Hb2.out (by decide) _) rfl (by have := HRL.out j; omega)
      · exact hbel.setCell (by show w.heap.size ≤ w.heap.size + 1; omega) _

end Go.Proofs.YtbdcolhmhbfdoaaDoor
