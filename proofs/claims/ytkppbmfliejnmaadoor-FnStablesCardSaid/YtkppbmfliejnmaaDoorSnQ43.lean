/- Walk: the laws' dice thrown (roll). -/
import Derived.Test.YtkppbmfliejnmaaDoorSnQ28
import Derived.Deep.RegionWith
import Derived.Test.YtkppbmfliejnmaaDoorSnQ7
import Derived.Test.YtkppbmfliejnmaaDoorSnQ12
import Derived.Test.YtkppbmfliejnmaaDoorSnQ11
import Derived.Test.YtkppbmfliejnmaaDoorSnQ16
import Derived.Test.YtkppbmfliejnmaaDoorSnQ4
import Derived.Test.YtkppbmfliejnmaaDoorSnQ42
namespace Go.Proofs.YtkppbmfliejnmaaDoor
open Go.RowKit

set_option maxRecDepth 100000 in
set_option maxHeartbeats 4000000 in
theorem roll_any (v : Value) (bs : List Int) (s : Int) (hl : bs.length ≤ 4096) (w : World) (ha : ArgB w v bs) :
    Calls Tryd.prog 12 #[v, .int .u64 s] w fun e w' => ∃ db : Nat, e = .returned (.pointer (some ⟨db, 0, none⟩)) ∧ Dice w w' db bs ∧ Below w.heap.size w w' := by
  obtain ⟨p, c, e, _⟩ := id ha
  subst e
  have HA := Lib.hid ha
  clear ha
  go_enter Tryd.func12, Tryd.ntmps12
  go_upto_region 1 with fail
  go_cut [5] (fun s5 wx => ∃ h : Int, s5 = .pointer (some ⟨w.heap.size, 0, none⟩) ∧ wx = w.alloc (.cells #[.slice p bs.length c, .int .i64 0, .int .u64 h] 66))
  case first =>
    go_wp2
    go_meet
    exact ⟨_, rfl, rfl⟩
  case rest =>
  obtain ⟨h, rfl, rfl⟩ := hcut
  go_wp2
  go_loopw [6] (fun i wr => ∃ (k : Nat) (z : Int), i = .int .i64 k ∧ k ≤ bs.length ∧ BoxD wr w.heap.size (.slice p bs.length c) (.int .i64 0) (.int .u64 z) ∧ Below w.heap.size w wr) (fun i _ => bs.length - (intOf i).toNat)
  case atStart => exact ⟨0, h, rfl, Nat.zero_le _, BoxD.new _ _ _ _, below_alloc _ _⟩
  case round =>
    obtain ⟨k, z, rfl, hk, hb, hbel⟩ := hrel
    have HB := Lib.hid hb
    have HBEL := Lib.hid hbel
    have c2 := hb.c2
    have f2 := hb.free 2
    clear hb hbel
    by_cases hlt : k < bs.length
    · obtain ⟨xb, xo, rfl, hcx, hx0, hx1⟩ := (HA.out.below HBEL.out).get hlt
      generalize bs[k] = x at hcx hx0 hx1
      go_upto_region 5 with fail
      go_region_with (fail)
      all_goals go_wp2
      all_goals go_roundw
      all_goals first
        | exact ⟨k + 1, _, by go_num, by omega, (HB.out.keep (below_dN (Below.refl _ _) _)).s2 _, (HBEL.out.trans ((below_dN (Below.refl wr.heap.size wr) _).mono HBEL.out.size)).setCell (p := ⟨w.heap.size, 2, none⟩) (Nat.le_refl _) _⟩
        | (simp [intOf]; omega)
    · obtain rfl : k = bs.length := by omega
      go_wp2
      go_ret
      exact ⟨_, rfl, ⟨⟨_, 0, z, HB.out, Nat.zero_le _, HA.out⟩, hl, Nat.le_refl _, HBEL.out⟩, HBEL.out⟩

end Go.Proofs.YtkppbmfliejnmaaDoor

/- Walks: a copy of a graph; the neighbours that are left. -/
namespace Go.Proofs.YtkppbmfliejnmaaDoor
open Go.RowKit

theorem box_stepB {w wr wc w7 : World} {B k b7 c8 : Nat} {ov x rv : Value} {vals : List Value}
    (hbel : Below B w wr) (hsz : B + 2 ≤ wr.heap.size) (hbc : Below wr.heap.size wr wc)
    (hb2 : Box wr B 29 x) (hb3 : Box wr (B + 1) 29 ov) (hown : wr.ownsRow (B + 2) 33 1 ov k vals)
    (hown7 : w7.ownsRow (B + 2) 33 1 (.slice (some ⟨b7, 0, none⟩) (k + 1) c8) (k + 1) (vals ++ [rv])) (hg7 : wc.grownBy w7 ov.ownBlock) :
    ∃ W, W = w7.setCell ⟨B + 1, 0, none⟩ (.slice (some ⟨b7, 0, none⟩) (k + 1) c8) ∧
      Below B w W ∧ B + 2 ≤ W.heap.size ∧ Box W B 29 x ∧ Box W (B + 1) 29 (.slice (some ⟨b7, 0, none⟩) (k + 1) c8) ∧ W.ownsRow (B + 2) 33 1 (.slice (some ⟨b7, 0, none⟩) (k + 1) c8) (k + 1) (vals ++ [rv]) ∧
      (∀ base size n v (xs : List Value), wc.ownsRow base 2 size v n xs → W.ownsRow base 2 size v n xs) := by
  have hownc := ownsRow_below hown hbc
  have hszc := hbc.size
  have hsz7 := hg7.size
  have hb7 : Below (B + 2) wc w7 := below_grown (Below.refl _ _) hownc hg7 (Nat.le_refl _) (by omega)
  have hb37 : Box w7 (B + 1) 29 ov := (hb3.keep hbc).below hb7 (by omega)
  have hb9 : Below (B + 1) w7 (w7.setCell ⟨B + 1, 0, none⟩ (.slice (some ⟨b7, 0, none⟩) (k + 1) c8)) := (Below.refl _ _).setCell (by show B + 1 ≤ B + 1; omega) _
  have hall : Below (B + 1) wr (w7.setCell ⟨B + 1, 0, none⟩ (.slice (some ⟨b7, 0, none⟩) (k + 1) c8)) := ((hbc.mono (by omega)).trans (hb7.mono (by omega))).trans hb9
  refine ⟨_, rfl, hbel.trans (hall.mono (by omega)), by have := hall.size; omega, hb2.below hall (by omega), hb37.set _, ownsRow_setBox hown7 hb37 (by decide) _, fun base size n v xs h => ?_⟩
  exact ownsRow_setBox (ownsRow_other h hownc hg7 (by decide)) hb37 (by decide) _

theorem three_boxes (w : World) (u : Value) : ∃ W, W = ((w.alloc (.cells #[u] 29)).alloc (.cells #[.slice none 0 0] 29)).alloc (.cells #[.slice none 0 0] 29) ∧ Below w.heap.size w W ∧ W.heap.size = w.heap.size + 3 ∧
    Box W w.heap.size 29 u ∧ Box W (w.heap.size + 1) 29 (.slice none 0 0) ∧ Box W (w.heap.size + 1 + 1) 29 (.slice none 0 0) := by
  refine ⟨_, rfl, below_alloc3 _ _ _ _, by rw [size_alloc, size_alloc, size_alloc], ((Box.new w _ _).alloc _).alloc _, ?_, ?_⟩
  · have := (Box.new (w.alloc (.cells #[u] 29)) (.slice none 0 0) 29).alloc (.cells #[.slice none 0 0] 29)
    rw [size_alloc] at this
    exact this
  · have := Box.new ((w.alloc (.cells #[u] 29)).alloc (.cells #[.slice none 0 0] 29)) (.slice none 0 0) 29
    rw [size_alloc, size_alloc] at this
    exact this

set_option maxRecDepth 100000 in
set_option maxHeartbeats 4000000 in
theorem l1CopyGraph_any (v : Value) (g : List (List Int)) (hl : g.length ≤ 1000) (hrl : ∀ j, (row g j).length ≤ 1000) (w : World) (hg : Gr w v g) :
    Calls Tryd.prog 216 #[v] w fun e w' => ∃ u, e = .returned u ∧ SG w' w.heap.size u g ∧ Below w.heap.size w w' := by
  obtain ⟨u, rfl, hr⟩ := hg
  obtain ⟨p, c, rfl, _⟩ := hr.shape
  have START := Lib.hid (three_boxes w (.slice p g.length c))
  have HR := Lib.hid hr
  have HRL := Lib.hid hrl
  clear hr hrl
  go_enter Tryd.func216, Tryd.ntmps216
  go_upto_region 3 with fail
  go_loopw [4] (fun i wr => ∃ (k : Nat) (ov : Value) (vals : List Value), k ≤ g.length ∧ i = .int .i64 k ∧ Below w.heap.size w wr ∧ Below (w.heap.size + 1) wr wr ∧ w.heap.size + 1 + 2 ≤ wr.heap.size ∧ Box wr w.heap.size 29 (.slice p g.length c) ∧
      Box wr (w.heap.size + 1) 29 (.slice none 0 0) ∧ Box wr (w.heap.size + 1 + 1) 29 ov ∧ wr.ownsRow (w.heap.size + 1 + 2) 33 1 ov k vals ∧ vals.length = k ∧
      ∀ j, j < k → wr.ownsRow (w.heap.size + 1 + 2) 2 1 (vals.getD j undef) (row g j).length ((row g j).map (Value.int .i64)))
    (fun i _ => g.length - (intOf i).toNat)
  case atStart =>
    obtain ⟨W, rfl, h1, h2, h3, h4, h5⟩ := START.out
    exact ⟨0, _, [], Nat.zero_le _, rfl, h1, Below.refl _ _, by omega, h3, h4, h5, World.ownsRow_nil _ _ _ _, rfl, fun j hj => by omega⟩
  case round =>
    obtain ⟨k, ov, vals, hk, rfl, hbel, _, hsz, hbx, hb2, hb3, hown, hvl, hrows⟩ := hrel
    have Hvl := Lib.hid hvl
    have Hrows := Lib.hid hrows
    have Hb2 := Lib.hid hb2
    have Hb3 := Lib.hid hb3
    have Hbx := Lib.hid hbx
    have Hown := Lib.hid hown
    have cbx := hbx.cell
    obtain ⟨p9, c9, rfl⟩ : ∃ p c, ov = .slice p k c := by
      rcases hown.2 with ⟨h1, h2⟩ | ⟨g1, cap, cur, h1, _⟩
      · exact ⟨none, 0, by rw [h1, h2]⟩
      · exact ⟨_, _, h1⟩
    clear hvl hrows hb3 hb2 hown hbx
    by_cases hlt : k < g.length
    · obtain ⟨b, o, rp, rc, rfl, hcell, hnums⟩ := (HR.out.below hbel).get hlt
      change wr.cell? _ = some (.slice rp (row g k).length rc) at hcell
      change Nums wr _ _ (.slice rp (row g k).length rc) (row g k) at hnums
      have Hnums := Lib.hid hnums
      obtain ⟨c3, f3, _, _⟩ := Hb3.out
      obtain ⟨m, hm⟩ : ∃ m, m = (row g k).length := ⟨_, rfl⟩
      have Hm := Lib.hid hm
      have hrk := HRL.out k
      rw [← hm] at hcell Hnums hrk
      clear hnums hm
      go_upto_region 5 with fail
      go_region_law (first
        | (go_simp; go_at_call 200; refine (l1Copy_any _ m ((row g k).map (Value.int .i64)) (fun x hx => by obtain ⟨y, _, rfl⟩ := List.mem_map.1 hx; rfl) (by rw [List.length_map]; exact Hm.out.symm) _ (Sl.below (show Sl wr 2 (.slice rp m rc) m _ from (by have h := Hnums.out; unfold Nums at h; rw [← Hm.out] at h; exact h)) (below_dN (Below.refl _ _) 1))).mono ?_; rintro e w5 ⟨rv, rfl, hown5, hb5⟩; obtain ⟨rvp, rvc, hrv⟩ : ∃ p c, rv = .slice p m c := (by rcases hown5.2 with ⟨rfl, h0⟩ | ⟨b, c, _, rfl, _⟩; exact ⟨none, 0, by rw [h0]⟩; exact ⟨_, _, rfl⟩); subst hrv; have hb5' : Below wr.heap.size wr w5 := ⟨hb5.os, hb5.tape, hb5.output, hb5.size, hb5.block⟩; have hown5' : w5.ownsRow wr.heap.size 2 1 (.slice rvp m rvc) m ((row g k).map (Value.int .i64)) := hown5; have hownc := ownsRow_below Hown.out hb5'; have hs5 := hb5'.size; have hbx5 := hb5'.at' c3; have hbx5a := fun o => (below_alloc w5 o).at' hbx5; have hcx5 := hb5'.at' cbx; have hcx5a := fun o => (below_alloc w5 o).at' hcx5; have hcl5 := hb5'.at' hcell; clear hb5 hown5)
        | (refine step_app1s ty_rows rfl rfl rfl hownc rfl rfl (by omega) (by omega) ?_; intro b7 c8 w7 hown7 hg7; have hb7 := below_grown (Below.refl (w.heap.size + 1 + 2) w5) hownc hg7 (Nat.le_refl _) (by omega); have hob7 := hb7.at (by omega) hbx5; have hof7 := (hb7.frozen (p := ⟨w.heap.size + 1 + 1, 0, none⟩) (by show w.heap.size + 1 + 1 < _; omega)).trans ((hb5'.frozen (p := ⟨w.heap.size + 1 + 1, 0, none⟩) (by show w.heap.size + 1 + 1 < _; omega)).trans f3)))
      all_goals go_wp2
      all_goals go_roundw
      all_goals first
        | (simp [intOf]; omega)
        | skip
      all_goals
        have hb0 : Below (w.heap.size + 1) wr wr := Below.refl _ _
        obtain ⟨W, hW, r1, r2, r3, r4, r5, r6⟩ := box_stepB hb0 hsz hb5' Hb2.out Hb3.out Hown.out hown7 hg7
        subst hW
        have hbW : Below w.heap.size w _ := hbel.trans (r1.mono (by omega))
        refine ⟨k + 1, _, _, by omega, by go_num, hbW, Below.refl _ _, r2, Hbx.out.below r1 (by omega), r3, r4, r5, by simp [Hvl.out], fun j hj => ?_⟩
        by_cases e : j = k
        · subst e
          rw [show (vals ++ [Value.slice rvp m rvc]).getD j undef = .slice rvp m rvc from by rw [← Hvl.out]; exact getD_append_last _ _ _]
          rw [← Hm.out]
          exact ownsRow_base (r6 _ _ _ _ _ hown5') (by omega)
        · rw [getD_append_left _ _ _ _ (by have := Hvl.out; omega)]
          exact r6 _ _ _ _ _ (ownsRow_below (Hrows.out j (by omega)) hb5')
    · obtain rfl : k = g.length := by omega
      obtain ⟨k2c, k2f, _⟩ := Hb2.out
      obtain ⟨k3c, k3f, _⟩ := Hb3.out
      go_wp2
      refine bodyPost_ret (v := .agg #[.slice p9 g.length c9]) (by simp [results, Tryd.results216, go_sem, k2c]) rfl ⟨_, rfl, ⟨_, vals, rfl, Hvl.out, ?_, fun j hj => ?_⟩, ?_⟩
      · exact ownsRow_base (ownsRow_setBox Hown.out Hb2.out (by decide) _) (by omega)
      · exact Nums.of_owns (ownsRow_setBox (Hrows.out j hj) Hb2.out (by decide) _) rfl (by have := HRL.out j; omega)
      · exact hbel.setCell (by show w.heap.size ≤ w.heap.size + 1; omega) _

end Go.Proofs.YtkppbmfliejnmaaDoor

/- Walks: marking a graph; what stays apart from it. -/
namespace Go.Proofs.YtkppbmfliejnmaaDoor
open Go.RowKit

/-- Only blocks from lo on and below hi have turned. -/
structure Apart (lo hi : Nat) (w w' : World) : Prop where
  os : w'.os = w.os
  tape : w'.tape = w.tape
  output : w'.output = w.output
  size : w.heap.size ≤ w'.heap.size
  block : ∀ b, b < w.heap.size → (b < lo ∨ hi ≤ b) → w'.heap[b]? = w.heap[b]?

theorem Apart.refl (lo hi : Nat) (w : World) : Apart lo hi w w := ⟨rfl, rfl, rfl, Nat.le_refl _, fun _ _ _ => rfl⟩
theorem Apart.trans {lo hi : Nat} {a b c : World} (h : Apart lo hi a b) (k : Apart lo hi b c) : Apart lo hi a c :=
  ⟨k.os.trans h.os, k.tape.trans h.tape, k.output.trans h.output, Nat.le_trans h.size k.size, fun i hi hn => (k.block i (Nat.lt_of_lt_of_le hi h.size) hn).trans (h.block i hi hn)⟩
theorem Apart.of_below {lo hi : Nat} {w w' : World} (h : Below w.heap.size w w') : Apart lo hi w w' := ⟨h.os, h.tape, h.output, h.size, fun b hb _ => h.block b hb⟩
theorem Apart.below {lo hi : Nat} {w w' : World} (h : Apart lo hi w w') (hl : lo ≤ w.heap.size) : Below lo w w' := ⟨h.os, h.tape, h.output, h.size, fun b hb => h.block b (by omega) (.inl hb)⟩
theorem Apart.of_grown {lo hi : Nat} {w w' : World} {base : Nat} {E : TypeId} {size n : Nat} {v : Value} {xs : List Value} (ho : w.ownsRow base E size v n xs) (hg : w.grownBy w' v.ownBlock) (h1 : lo ≤ base) (h2 : ∀ k, v.ownBlock = some k → k < hi) : Apart lo hi w w' :=
  ⟨hg.os, hg.tape, hg.output, hg.size, fun b hb hx => hg.block b hb fun e => by
    have h3 := (ho.lt b e.symm).1
    have h4 := h2 b e.symm
    omega⟩

theorem ownsRow_apart_lo {lo hi : Nat} {w w' : World} {base : Nat} {E : TypeId} {size n : Nat} {v : Value} {xs : List Value} (h : w.ownsRow base E size v n xs) (ha : Apart lo hi w w') (hl : ∀ k, v.ownBlock = some k → k < lo) : w'.ownsRow base E size v n xs := by
  refine ⟨h.1, ?_⟩
  rcases h.2 with h2 | ⟨g, cap, cur, h1, h2, h3, h4⟩
  · exact .inl h2
  · exact .inr ⟨g, cap, cur, h1, h2, (ha.block g (Array.getElem?_eq_some_iff.1 h3).1 (.inl (hl g (by rw [h1]; rfl)))).trans h3, h4⟩
theorem ownsRow_apart_hi {lo hi : Nat} {w w' : World} {base : Nat} {E : TypeId} {size n : Nat} {v : Value} {xs : List Value} (h : w.ownsRow base E size v n xs) (ha : Apart lo hi w w') (hl : hi ≤ base) : w'.ownsRow base E size v n xs := by
  refine ⟨h.1, ?_⟩
  rcases h.2 with h2 | ⟨g, cap, cur, h1, h2, h3, h4⟩
  · exact .inl h2
  · exact .inr ⟨g, cap, cur, h1, h2, (ha.block g (Array.getElem?_eq_some_iff.1 h3).1 (.inr (by omega))).trans h3, h4⟩

/-- A row, whatever it holds, behind a write to a row of the same kind. -/
theorem ownsRow_some {w w' : World} {base : Nat} {E : TypeId} {n m : Nat} {v u : Value} {ys zs zs' : List Value} (h : w.ownsRow base E 1 v n ys)
    (ho : w.ownsRow base E 1 u m zs) (ho' : w'.ownsRow base E 1 u m zs') (hg : w.grownBy w' u.ownBlock) : ∃ ys', w'.ownsRow base E 1 v n ys' := by
  rcases h.2 with ⟨rfl, rfl⟩ | ⟨g, cap, cur, rfl, hb, hgg, hnc, hcm, hcs, ht⟩
  · exact ⟨[], World.ownsRow_nil _ _ _ _⟩
  · by_cases e : u.ownBlock = some g
    · rcases ho.2 with ⟨rfl, rfl⟩ | ⟨g1, cap1, cur1, rfl, _, hg1, _, _, hcs1, _⟩
      · simp [Value.ownBlock] at e
      · simp [Value.ownBlock] at e
        subst e
        rcases ho'.2 with ⟨h', _⟩ | ⟨g2, cap2, cur2, h2, hb2, hg2, _, _, hcs2, _⟩
        · simp at h'
        · simp only [Value.slice.injEq, Option.some.injEq, Addr.mk.injEq, and_true, true_and] at h2
          obtain ⟨rfl, rfl⟩ := h2
          rw [hgg] at hg1
          simp only [Option.some.injEq, Obj.cells.injEq] at hg1
          have hcc : cur2.size = cap * 1 := by rw [hcs2, ← hcs1, ← hg1.1, hcs]
          refine ⟨cur2.toList.take (n * 1), by rw [List.length_take, Array.length_toList]; omega, .inr ⟨g1, cap, cur2, rfl, hb, hg2, hnc, hcm, hcc, rfl⟩⟩
    · exact ⟨ys, h.kept hg (.inr (by simp only [Value.ownBlock]; exact fun q => e q.symm))⟩

/-- A graph in blocks from lo on and below hi. -/
def InG (w : World) (lo hi : Nat) (v : Value) (g : List (List Int)) : Prop :=
  ∃ u vals, v = .agg #[u] ∧ vals.length = g.length ∧ w.ownsRow lo 33 1 u g.length vals ∧ (∀ b, u.ownBlock = some b → b < hi) ∧
    ∀ j, j < g.length → w.ownsRow lo 2 1 (vals.getD j undef) (row g j).length ((row g j).map (Value.int .i64)) ∧ ∀ b, (vals.getD j undef).ownBlock = some b → b < hi

theorem InG.of_own {w : World} {lo : Nat} {v : Value} {g : List (List Int)} (h : OwnG w lo v g) : InG w lo w.heap.size v g := by
  obtain ⟨u, rfl, vals, h1, h2, h3⟩ := h
  exact ⟨u, vals, rfl, h1, h2, fun b hb => (h2.lt b hb).2, fun j hj => ⟨h3 j hj, fun b hb => ((h3 j hj).lt b hb).2⟩⟩
theorem InG.below {w w' : World} {lo hi : Nat} {v : Value} {g : List (List Int)} (h : InG w lo hi v g) (hb : Below w.heap.size w w') : InG w' lo hi v g := by
  obtain ⟨u, vals, h0, h1, h2, h3, h4⟩ := h
  exact ⟨u, vals, h0, h1, ownsRow_below h2 hb, h3, fun j hj => ⟨ownsRow_below (h4 j hj).1 hb, (h4 j hj).2⟩⟩
theorem InG.own {w : World} {lo hi : Nat} {v : Value} {g : List (List Int)} (h : InG w lo hi v g) : OwnG w lo v g := by
  obtain ⟨u, vals, h0, h1, h2, h3, h4⟩ := h
  exact ⟨u, h0, vals, h1, h2, fun j hj => (h4 j hj).1⟩

end Go.Proofs.YtkppbmfliejnmaaDoor

/- Small laws on what a law's walk compares. -/
namespace Go.Proofs.YtkppbmfliejnmaaDoor
open Go.RowKit

theorem OwnG.shape {w : World} {base : Nat} {v : Value} {g : List (List Int)} (h : OwnG w base v g) : ∃ p c, v = .agg #[.slice p g.length c] := by
  obtain ⟨u, rfl, vals, _, h2, _⟩ := h
  rcases h2.2 with ⟨rfl, h0⟩ | ⟨b, c, _, rfl, _⟩
  · exact ⟨none, 0, by rw [h0]⟩
  · exact ⟨_, _, rfl⟩
theorem owns_shape {w : World} {base : Nat} {E : TypeId} {size n : Nat} {v : Value} {xs : List Value} (h : w.ownsRow base E size v n xs) : ∃ p c, v = .slice p n c := by
  rcases h.2 with ⟨rfl, rfl⟩ | ⟨b, c, _, rfl, _⟩
  · exact ⟨none, 0, rfl⟩
  · exact ⟨_, _, rfl⟩
end Go.Proofs.YtkppbmfliejnmaaDoor

/- Walks: the edges of a graph, of both; how many. -/
namespace Go.Proofs.YtkppbmfliejnmaaDoor
open Go.RowKit

theorem up_u (k : Nat) (xs : List Int) {i : Nat} (h : i < xs.length) (e : (k : Int) < xs[i]) : upL k (xs.take (i + 1)) = upL k (xs.take i) + 1 := by rw [upL_snoc h, if_pos e]
theorem up_n (k : Nat) (xs : List Int) {i : Nat} (h : i < xs.length) (e : ¬ (k : Int) < xs[i]) : upL k (xs.take (i + 1)) = upL k (xs.take i) := by rw [upL_snoc h, if_neg e, Nat.add_zero]

set_option maxRecDepth 100000 in
set_option maxHeartbeats 4000000 in
theorem l1Edges_any (v : Value) (g : List (List Int)) (h16 : g.length ≤ 16) (h2 : ∀ j, (row g j).length ≤ 16) (w : World) (hg : Gr w v g) :
    Calls Tryd.prog 140 #[v] w fun e w' => ∃ (u : Value) (vals : List Value), e = .returned u ∧ w'.ownsRow w.heap.size 33 1 u (cntE g g.length) vals ∧ Below w.heap.size w w' := by
  have hg0 := hg
  obtain ⟨u, rfl, hr⟩ := hg
  obtain ⟨p, c, rfl, _⟩ := hr.shape
  have hbA := below_alloc w (.cells #[.slice p g.length c] 29)
  have HB := Lib.hid hbA
  have BX := Lib.hid ((Box.new w (.slice p g.length c) 29).alloc (.cells #[] 33))
  have HG := Lib.hid hg0
  have H2 := Lib.hid h2
  have HR := Lib.hid hr
  have HC := Lib.hid (cntE_le h2)
  clear hr hg0 hbA h2
  go_enter Tryd.func140, Tryd.ntmps140
  go_wp2
  go_loopw [3, 4] (fun u i wr => ∃ (k : Nat) (vals : List Value), k ≤ g.length ∧ i = .int .i64 k ∧ wr.ownsRow (w.heap.size + 1) 33 1 u (cntE g k) vals ∧ Below w.heap.size w wr ∧ Box wr w.heap.size 29 (.slice p g.length c))
    (fun _ i _ => g.length - (intOf i).toNat)
  case atStart => exact ⟨0, [], Nat.zero_le _, rfl, ownsRow_empty' _ _ _ _ _ (Nat.le_refl _), HB.out.alloc HB.out.size _, BX.out⟩
  case round =>
    obtain ⟨k, vals, hk, rfl, hown, hbel, hbx⟩ := hrel
    have hc := hbx.cell
    obtain ⟨outp, outc, rfl⟩ := owns_shape hown
    have Hown := Lib.hid hown
    have Hbx := Lib.hid hbx
    have hsz := hbel.size
    clear hown hbx
    by_cases hlt : k < g.length
    · obtain ⟨b, o, rp, rc, rfl, hcell, hnums⟩ := (HR.out.below hbel).get hlt
      clear hcell hnums
      go_wp2_with (go_at_call 132; refine (l1Size_any _ g _ (HG.out.below hbel)).mono ?_; rintro e w4 ⟨rfl, hb4⟩)
      have START : Hid (w4.ownsRow (w.heap.size + 1) 33 1 (.slice outp (cntE g k) outc) (cntE g k) vals ∧ Below w.heap.size w w4 ∧ Box w4 w.heap.size 29 (.slice (some ⟨b, o, none⟩) g.length c)) := Lib.hid
        ⟨ownsRow_below Hown.out hb4, hbel.trans (hb4.mono hsz), Hbx.out.keep hb4⟩
      go_loopw [3, 5] (fun u i wr => ∃ (t : Nat) (vals : List Value), t ≤ (row g k).length ∧ i = .int .i64 t ∧ wr.ownsRow (w.heap.size + 1) 33 1 u (cntE g k + upL k ((row g k).take t)) vals ∧ Below w.heap.size w wr ∧ Box wr w.heap.size 29 (.slice (some ⟨b, o, none⟩) g.length c))
        (fun _ i _ => (row g k).length - (intOf i).toNat)
      case atStart => exact ⟨0, vals, Nat.zero_le _, rfl, START.out.1, START.out.2.1, START.out.2.2⟩
      case round =>
        clear START Hown Hbx hc hbel hsz
        obtain ⟨t, vals2, ht, rfl, hown, hbel, hbx⟩ := hrel
        have hc := hbx.cell
        have hsz := hbel.size
        obtain ⟨outp, outc, rfl⟩ := owns_shape hown
        obtain ⟨_, _, rp, rc, e1, hcell, hnums⟩ := (HR.out.below hbel).get hlt
        cases e1
        have hlen2 := H2.out k
        have hck := HC.out k
        change wr.cell? _ = some (.slice rp (row g k).length rc) at hcell
        change Nums wr _ _ (.slice rp (row g k).length rc) (row g k) at hnums
        have hcb : cntE g k + upL k ((row g k).take t) < 1000000000 := by
          have := upL_le k ((row g k).take t)
          rw [List.length_take] at this
          have : k * 16 ≤ 16 * 16 := Nat.mul_le_mul_right _ (by omega)
          omega
        have Hbx := Lib.hid hbx
        have Hhck := Lib.hid hck
        clear hbx hck
        by_cases hlt2 : t < (row g k).length
        · obtain ⟨rb, ro, rfl, hcx⟩ := hnums.get hlt2
          by_cases hgt : (k : Int) < (row g k)[t]
          · have Hup := Lib.hid (up_u k (row g k) hlt2 hgt)
            generalize (row g k)[t] = X at hcx hgt
            go_wp2_with (at_builtin; refine wpList_app1s ty_rows64 rfl rfl rfl (hown.alloc (.cells #[.int .i64 k, .int .i64 X] 2)) (by rw [size_alloc]; rfl) rfl hcb (by rw [size_alloc]; omega) ?_; intro b7 c8 w7 hown7 hg7 _)
            go_roundw
            case rel =>
              have ha := below_alloc wr (.cells #[.int .i64 k, .int .i64 X] 2)
              refine ⟨t + 1, _, by omega, by go_num, by rw [Hup.out, ← Nat.add_assoc]; exact hown7, below_grown (hbel.alloc hsz _) (hown.alloc _) hg7 (by omega) (by rw [size_alloc]; omega), ?_⟩
              exact (Hbx.out.keep ha).below (below_grown (Below.refl (w.heap.size + 1) _) (hown.alloc _) hg7 (Nat.le_refl _) (by rw [size_alloc]; omega)) (by omega)
            case measure => simp [intOf]; omega
          · have Hup := Lib.hid (up_n k (row g k) hlt2 hgt)
            have Hown := Lib.hid hown
            generalize (row g k)[t] = X at hcx hgt
            clear hown
            go_wp2
            go_roundw
            case rel => exact ⟨t + 1, _, by omega, by go_num, by rw [Hup.out]; exact Hown.out, hbel, Hbx.out⟩
            case measure => simp [intOf]; omega
        · obtain rfl : t = (row g k).length := by omega
          have Hown := Lib.hid hown
          clear hown hnums
          go_wp2
          go_roundw
          case rel =>
            refine ⟨k + 1, vals2, by omega, by go_num, ?_, hbel, Hbx.out⟩
            rw [show cntE g (k + 1) = cntE g k + upL k ((row g k).take (row g k).length) from by rw [List.take_length]; rfl]
            exact Hown.out
          case measure => simp [intOf]; omega
    · obtain rfl : k = g.length := by omega
      go_wp2_with (go_at_call 132; refine (l1Size_any _ g _ (HG.out.below hbel)).mono ?_; rintro e w4 ⟨rfl, hb4⟩)
      go_ret
      exact ⟨_, _, rfl, ownsRow_base (ownsRow_below Hown.out hb4) (by omega), hbel.trans (hb4.mono hsz)⟩

set_option maxRecDepth 100000 in
set_option maxHeartbeats 4000000 in
theorem edgesOf_any (v : Value) (g : List (List Int)) (h16 : g.length ≤ 16) (h2 : ∀ j, (row g j).length ≤ 16) (w : World) (hg : Gr w v g) :
    Calls Tryd.prog 217 #[v] w fun e w' => ∃ (u : Value) (vals : List Value), e = .returned u ∧ w'.ownsRow w.heap.size 33 1 u (cntE g g.length) vals ∧ Below w.heap.size w w' := by
  have hg0 := hg
  obtain ⟨u, rfl, hr⟩ := hg
  obtain ⟨p, c, rfl, _⟩ := hr.shape
  have hbA := below_alloc w (.cells #[.slice p g.length c] 29)
  have HB := Lib.hid hbA
  have BX := Lib.hid ((Box.new w (.slice p g.length c) 29).alloc (.cells #[] 33))
  have H2 := Lib.hid h2
  have HR := Lib.hid hr
  have HC := Lib.hid (cntE_le h2)
  clear hr hg0 hbA h2
  go_enter Tryd.func217, Tryd.ntmps217
  go_wp2
  go_loopw [3, 12] (fun u i wr => ∃ (k : Nat) (vals : List Value), k ≤ g.length ∧ i = .int .i64 k ∧ wr.ownsRow (w.heap.size + 1) 33 1 u (cntE g k) vals ∧ Below w.heap.size w wr)
    (fun _ i _ => g.length - (intOf i).toNat)
  case atStart => exact ⟨0, [], Nat.zero_le _, rfl, ownsRow_empty' _ _ _ _ _ (Nat.le_refl _), HB.out.alloc HB.out.size _⟩
  case round =>
    obtain ⟨k, vals, hk, rfl, hown, hbel⟩ := hrel
    obtain ⟨outp, outc, rfl⟩ := owns_shape hown
    have Hown := Lib.hid hown
    have hsz := hbel.size
    clear hown
    by_cases hlt : k < g.length
    · obtain ⟨b, o, rp, rc, rfl, hcell, hnums⟩ := (HR.out.below hbel).get hlt
      have Hnums := Lib.hid hnums
      clear hnums
      have hlen2 := H2.out k
      have hck := HC.out k
      have hcb : ∀ t, cntE g k + upL k ((row g k).take t) < 1000000000 := fun t => by
        have := upL_le k ((row g k).take t)
        rw [List.length_take] at this
        have : k * 16 ≤ 16 * 16 := Nat.mul_le_mul_right _ (by omega)
        omega
      have Hhck := Lib.hid hck
      have Hcb := Lib.hid hcb
      clear hck hcb
      change wr.cell? _ = some (.slice rp (row g k).length rc) at hcell
      have Hnums2 : Hid (Nums wr 2 .i64 (.slice rp (row g k).length rc) (row g k)) := Lib.hid Hnums.out
      clear Hnums
      go_wp2
      have START : Hid (wr.ownsRow (w.heap.size + 1) 33 1 (.slice outp (cntE g k) outc) (cntE g k) vals ∧ Below w.heap.size w wr) := Lib.hid ⟨Hown.out, hbel⟩
      go_loopw [3, 19] (fun u i wx => ∃ (t : Nat) (vals : List Value), t ≤ (row g k).length ∧ i = .int .i64 t ∧ wx.ownsRow (w.heap.size + 1) 33 1 u (cntE g k + upL k ((row g k).take t)) vals ∧ Below w.heap.size w wx ∧ Nums wx 2 .i64 (.slice rp (row g k).length rc) (row g k))
        (fun _ i _ => (row g k).length - (intOf i).toNat)
      case atStart => exact ⟨0, vals, Nat.zero_le _, rfl, START.out.1, START.out.2, Hnums2.out⟩
      case round =>
        clear START Hown hbel hsz hcell Hnums2
        obtain ⟨t, vals2, ht, rfl, hown, hbel, hnums⟩ := hrel
        have hsz := hbel.size
        obtain ⟨outp, outc, rfl⟩ := owns_shape hown
        have Hnums := Lib.hid hnums
        have hcb := Hcb.out t
        by_cases hlt2 : t < (row g k).length
        · obtain ⟨rb, ro, rfl, hcx⟩ := hnums.get hlt2
          by_cases hgt : (k : Int) < (row g k)[t]
          · have Hup := Lib.hid (up_u k (row g k) hlt2 hgt)
            generalize (row g k)[t] = X at hcx hgt
            clear hnums
            go_wp2_with (at_builtin; refine wpList_app1s ty_rows64 rfl rfl rfl (hown.alloc (.cells #[.int .i64 k, .int .i64 X] 2)) (by rw [size_alloc]; rfl) rfl hcb (by rw [size_alloc]; omega) ?_; intro b7 c8 w7 hown7 hg7 _)
            go_roundw
            case rel =>
              have ha := below_alloc wr (.cells #[.int .i64 k, .int .i64 X] 2)
              exact ⟨t + 1, _, by omega, by go_num, by rw [Hup.out, ← Nat.add_assoc]; exact hown7, below_grown (hbel.alloc hsz _) (hown.alloc _) hg7 (by omega) (by rw [size_alloc]; omega), (Hnums.out.below ha).other (hown.alloc _) hg7 (by decide)⟩
            case measure => simp [intOf]; omega
          · have Hup := Lib.hid (up_n k (row g k) hlt2 hgt)
            have Hown := Lib.hid hown
            generalize (row g k)[t] = X at hcx hgt
            clear hown hnums
            go_wp2
            go_roundw
            case rel => exact ⟨t + 1, _, by omega, by go_num, by rw [Hup.out]; exact Hown.out, hbel, Hnums.out⟩
            case measure => simp [intOf]; omega
        · obtain rfl : t = (row g k).length := by omega
          have Hown := Lib.hid hown
          clear hown hnums
          go_wp2
          go_roundw
          case rel =>
            refine ⟨k + 1, vals2, by omega, by go_num, ?_, hbel⟩
            rw [show cntE g (k + 1) = cntE g k + upL k ((row g k).take (row g k).length) from by rw [List.take_length]; rfl]
            exact Hown.out
          case measure => simp [intOf]; omega
    · obtain rfl : k = g.length := by omega
      go_wp2
      go_ret
      exact ⟨_, _, rfl, ownsRow_base Hown.out (by omega), hbel⟩

end Go.Proofs.YtkppbmfliejnmaaDoor

/- Walks: how many edges a graph has, of both (out of XFillM, without what that text needs besides). -/
namespace Go.Proofs.YtkppbmfliejnmaaDoor
open Go.RowKit

theorem gok_rowsN {g : List (List Int)} (hok : GOk g) (j : Nat) : (row g j).length ≤ 16 := by
  have h16 := hok.le
  by_cases hj : j < g.length
  · have h1 := setIn_length (by omega) (hok.sets j hj).1; omega
  · rw [row_out hj]; simp

theorem specManyN_any (v : Value) (g : List (List Int)) (hok : GOk g) (w : World) (hg : Gr w v g) :
    Calls Tryd.prog 56 #[v] w fun e w' => e = .returned (.int .i64 (cntE g g.length : Nat)) ∧ Below w.heap.size w w' := by
  have hg0 := hg
  obtain ⟨u, rfl, hr⟩ := hg
  obtain ⟨p, c, rfl, _⟩ := hr.shape
  have hbA := Lib.hid (below_alloc w (.cells #[.slice p g.length c] 29))
  have BX := Lib.hid (Box.new w (.slice p g.length c) 29)
  have HG := Lib.hid (hg0.below hbA.out)
  have hd := dec_true hok
  have Hok := Lib.hid hok
  have h16 := hok.le
  clear hr hg0 hok
  go_enter Tryd.func56, Tryd.ntmps56
  go_wp2_with (first
    | (go_at_call 73; refine (specGraphOk_any _ g _ HG.out).mono ?_; rintro e w2 ⟨rfl, hb2⟩; have hbx := (BX.out.keep hb2).cell)
    | (go_at_call 140; refine (l1Edges_any _ g h16 (gok_rowsN Hok.out) _ (HG.out.below hb2)).mono ?_; rintro e w3 ⟨u3, vals, rfl, ho3, hb3⟩; obtain ⟨p3, c3, rfl⟩ := owns_shape ho3))
  go_ret
  exact ⟨rfl, (hbA.out.trans (hb2.mono hbA.out.size)).trans (hb3.mono (Nat.le_trans hbA.out.size hb2.size))⟩

theorem implManyN_any (v : Value) (g : List (List Int)) (hok : GOk g) (w : World) (hg : Gr w v g) :
    Calls Tryd.prog 76 #[v] w fun e w' => e = .returned (.int .i64 (cntE g g.length : Nat)) ∧ Below w.heap.size w w' := by
  have hd := dec_true hok
  have Hok := Lib.hid hok
  have h16 := hok.le
  clear hok
  have E : Hid (∀ (w : World), Gr w v g → Calls Tryd.prog 171 #[v] w fun e w' => ∃ p c, e = .returned (.slice p (cntE g g.length) c) ∧ Below w.heap.size w w') := Lib.hid (by
    clear hg w
    intro w hg
    have hg0 := hg
    obtain ⟨u, rfl, hr⟩ := hg
    obtain ⟨p, c, rfl, _⟩ := hr.shape
    have hbA := Lib.hid (below_alloc w (.cells #[.slice p g.length c] 29))
    have BX := Lib.hid (Box.new w (.slice p g.length c) 29)
    have HG := Lib.hid (hg0.below hbA.out)
    clear hr hg0
    go_enter Tryd.func171, Tryd.ntmps171
    go_wp2_with (first
      | (go_at_call 87; refine (implGraphOk_any _ g _ HG.out).mono ?_; rintro e w2 ⟨rfl, hb2⟩; have hbx := (BX.out.keep hb2).cell)
      | (go_at_call 217; refine (edgesOf_any _ g h16 (gok_rowsN Hok.out) _ (HG.out.below hb2)).mono ?_; rintro e w3 ⟨u3, vals, rfl, ho3, hb3⟩; obtain ⟨p3, c3, rfl⟩ := owns_shape ho3))
    go_ret
    exact ⟨_, _, rfl, (hbA.out.trans (hb2.mono hbA.out.size)).trans (hb3.mono (Nat.le_trans hbA.out.size hb2.size))⟩)
  have hg0 := hg
  obtain ⟨u, rfl, hr⟩ := hg
  obtain ⟨p, c, rfl, _⟩ := hr.shape
  have hbA := Lib.hid (below_alloc w (.cells #[.slice p g.length c] 29))
  have HG := Lib.hid (hg0.below hbA.out)
  clear hr hg0
  go_enter Tryd.func76, Tryd.ntmps76
  go_wp2_with (go_at_call 171; refine (E.out _ HG.out).mono ?_; rintro e w2 ⟨p2, c2, rfl, hb2⟩)
  go_ret
  exact ⟨rfl, hbA.out.trans (hb2.mono hbA.out.size)⟩

end Go.Proofs.YtkppbmfliejnmaaDoor

/- Walks: the reference's two graphs beside each other. -/
namespace Go.Proofs.YtkppbmfliejnmaaDoor
open Go.RowKit

/-- The rows of the second graph, moved. -/
def movedN (n : Nat) (h : List (List Int)) (k : Nat) : List (List Int) := (List.range k).map fun v => (row h v).map fun x => (n : Int) + x
theorem movedN_succ (n : Nat) (h : List (List Int)) (k : Nat) : movedN n h (k + 1) = movedN n h k ++ [(row h k).map fun x => (n : Int) + x] := by
  simp [movedN, List.range_succ]
theorem movedN_length (n : Nat) (h : List (List Int)) (k : Nat) : (movedN n h k).length = k := by simp [movedN]
theorem filter_app_right {n m : Nat} {P : Nat → Bool} (h : ∀ x, x < n → P x = false) : (List.range (n + m)).filter P = ((List.range m).filter fun x => P (n + x)).map (n + ·) := by
  rw [range_beside, List.filter_append, List.filter_map]
  rw [List.filter_eq_nil_iff.2 fun x hx => by rw [h x (List.mem_range.1 hx)]; decide]
  rfl
theorem filter_app_left {n m : Nat} {P : Nat → Bool} (h : ∀ x, x < m → P (n + x) = false) : (List.range (n + m)).filter P = (List.range n).filter P := by
  rw [range_beside, List.filter_append, List.filter_map]
  rw [show (List.range m).filter (P ∘ (n + ·)) = [] from List.filter_eq_nil_iff.2 fun x hx => by
    simp only [Function.comp]
    rw [h x (List.mem_range.1 hx)]; decide]
  simp
theorem bes_rows {g h : List (List Int)} (hg : GOk g) (hh : GOk h) : g ++ movedN g.length h h.length = matG (g.length + h.length) (besE g.length (ofG g) (ofG h)) := by
  refine graph_ext (by rw [List.length_append, movedN_length, matG_length]) fun j hj => ?_
  rw [List.length_append, movedN_length] at hj
  rw [row_matG hj]
  by_cases hjg : j < g.length
  · have e1 : row (g ++ movedN g.length h h.length) j = row g j := by simp [row, List.getElem?_append_left hjg]
    rw [e1, filter_app_left fun x _ => by rw [bes_low hjg]; simp [show ¬ g.length + x < g.length by omega]]
    have h2 := row_matG (E := ofG g) hjg
    rw [matG_ofG hg] at h2
    rw [h2]
    congr 1
    exact List.filter_congr fun x hx => by rw [bes_low hjg]; simp [List.mem_range.1 hx]
  · obtain ⟨k, rfl⟩ : ∃ k, j = g.length + k := ⟨j - g.length, by omega⟩
    have hk : k < h.length := by omega
    have e1 : row (g ++ movedN g.length h h.length) (g.length + k) = (row h k).map fun x => (g.length : Int) + x := by
      simp [row, List.getElem?_append_right, movedN, hk]
    rw [e1, filter_app_right fun x hx => by rw [bes_high]; simp; intro h3; omega]
    have h2 := row_matG (E := ofG h) hk
    rw [matG_ofG hh] at h2
    rw [h2]
    unfold natInts
    rw [List.map_map, List.map_map]
    have h3 : (List.range h.length).filter (fun x => besE g.length (ofG g) (ofG h) (g.length + k) (g.length + x)) = (List.range h.length).filter (ofG h k) := List.filter_congr fun x _ => by
      rw [bes_high, show g.length + x - g.length = x by omega]; simp
    rw [h3]
    exact List.map_congr_left fun x _ => by simp

/-- A boxed graph that grows at its end. -/
structure BsI (W0 wr : World) (base b6 : Nat) (ov : Value) (gg : List (List Int)) : Prop where
  sg : SG wr base (.agg #[ov]) gg
  box : Box wr b6 29 ov
  bel : Below W0.heap.size W0 wr
  hb : W0.heap.size ≤ base
  b6 : W0.heap.size ≤ b6
  sz : base ≤ wr.heap.size
theorem BsI.next {W0 wr wx : World} {base b6 : Nat} {ov : Value} {gg : List (List Int)} (h : BsI W0 wr base b6 ov gg) (hb : Below wr.heap.size wr wx) : BsI W0 wx base b6 ov gg :=
  ⟨h.sg.below hb, h.box.keep hb, h.bel.trans (hb.mono h.bel.size), h.hb, h.b6, Nat.le_trans h.sz hb.size⟩
theorem BsI.ne {W0 wr : World} {base b6 : Nat} {ov : Value} {gg : List (List Int)} (h : BsI W0 wr base b6 ov gg) : some b6 ≠ ov.ownBlock := fun e => by
  obtain ⟨_, vals, e1, _, ho, _⟩ := h.sg
  cases e1
  rcases ho.2 with ⟨rfl, _⟩ | ⟨k, cap, cur, rfl, _, hgg, _⟩
  · simp [Value.ownBlock] at e
  · simp [Value.ownBlock] at e
    subst e
    have h2 := h.box.blk
    rw [h2] at hgg
    simp only [Option.some.injEq, Obj.cells.injEq] at hgg
    exact absurd hgg.2.1 (by decide)
theorem BsI.push {W0 wc w7 : World} {base b6 : Nat} {ov v' rv : Value} {gg : List (List Int)} {s : List Int} {vals : List Value} (h : BsI W0 wc base b6 ov gg) (hl : vals.length = gg.length) (ho : wc.ownsRow base 33 1 ov gg.length vals) (hr : ∀ j, j < gg.length → Nums wc 2 .i64 (vals.getD j undef) (row gg j))
    (ho' : w7.ownsRow base 33 1 v' (gg.length + 1) (vals ++ [rv])) (hg : wc.grownBy w7 ov.ownBlock) (hn : Nums wc 2 .i64 rv s) : BsI W0 (w7.setCell ⟨b6, 0, none⟩ v') base b6 v' (gg ++ [s]) := by
  have hne := h.ne
  have hbx := h.box.grown hg hne
  have hsg : SG w7 base (.agg #[v']) (gg ++ [s]) := by
    refine ⟨v', vals ++ [rv], rfl, by simp [hl], by rw [List.length_append]; exact ho', fun j hj => ?_⟩
    rw [List.length_append, List.length_singleton] at hj
    by_cases hj2 : j < gg.length
    · rw [getD_append_left _ _ _ _ (by omega)]
      have e : row (gg ++ [s]) j = row gg j := by simp [row, List.getElem?_append_left hj2]
      rw [e]
      exact (hr j hj2).other ho hg (by decide)
    · obtain rfl : j = gg.length := by omega
      have e : row (gg ++ [s]) gg.length = s := by simp [row]
      rw [e, ← hl, getD_append_last]
      exact hn.other ho hg (by decide)
  exact ⟨hsg.setBox hbx _, hbx.set _, (below_grown h.bel ho hg h.hb h.bel.size).setCell h.b6 _, h.hb, h.b6, by rw [World.size_setCell]; exact Nat.le_trans h.sz hg.size⟩



end Go.Proofs.YtkppbmfliejnmaaDoor
