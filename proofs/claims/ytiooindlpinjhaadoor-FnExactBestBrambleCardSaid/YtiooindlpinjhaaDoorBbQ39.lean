/- Walks: a copy of a graph; the neighbours that are left. -/
import Derived.Test.YtiooindlpinjhaaDoorBbQ9
import Derived.Test.YtiooindlpinjhaaDoorBbQ13
import Derived.Test.YtiooindlpinjhaaDoorBbQ8
import Derived.Test.YtiooindlpinjhaaDoorBbQ29
import Derived.Test.YtiooindlpinjhaaDoorBbQ38
import Derived.Test.YtiooindlpinjhaaDoorBbQ32
import Derived.Test.YtiooindlpinjhaaDoorBbQ35
namespace Go.Proofs.YtiooindlpinjhaaDoor
open Go.RowKit

theorem box_stepB {w wr wc w7 : World} {B k b7 c8 : Nat} {ov x rv : Value} {vals : List Value}
    (hbel : Below B w wr) (hsz : B + 2 ≤ wr.heap.size) (hbc : Below wr.heap.size wr wc)
    (hb2 : Box wr B 28 x) (hb3 : Box wr (B + 1) 28 ov) (hown : wr.ownsRow (B + 2) 26 1 ov k vals)
    (hown7 : w7.ownsRow (B + 2) 26 1 (.slice (some ⟨b7, 0, none⟩) (k + 1) c8) (k + 1) (vals ++ [rv])) (hg7 : wc.grownBy w7 ov.ownBlock) :
    ∃ W, W = w7.setCell ⟨B + 1, 0, none⟩ (.slice (some ⟨b7, 0, none⟩) (k + 1) c8) ∧
      Below B w W ∧ B + 2 ≤ W.heap.size ∧ Box W B 28 x ∧ Box W (B + 1) 28 (.slice (some ⟨b7, 0, none⟩) (k + 1) c8) ∧ W.ownsRow (B + 2) 26 1 (.slice (some ⟨b7, 0, none⟩) (k + 1) c8) (k + 1) (vals ++ [rv]) ∧
      (∀ base size n v (xs : List Value), wc.ownsRow base 2 size v n xs → W.ownsRow base 2 size v n xs) := by
  have hownc := ownsRow_below hown hbc
  have hszc := hbc.size
  have hsz7 := hg7.size
  have hb7 : Below (B + 2) wc w7 := below_grown (Below.refl _ _) hownc hg7 (Nat.le_refl _) (by omega)
  have hb37 : Box w7 (B + 1) 28 ov := (hb3.keep hbc).below hb7 (by omega)
  have hb9 : Below (B + 1) w7 (w7.setCell ⟨B + 1, 0, none⟩ (.slice (some ⟨b7, 0, none⟩) (k + 1) c8)) := (Below.refl _ _).setCell (by show B + 1 ≤ B + 1; omega) _
  have hall : Below (B + 1) wr (w7.setCell ⟨B + 1, 0, none⟩ (.slice (some ⟨b7, 0, none⟩) (k + 1) c8)) := ((hbc.mono (by omega)).trans (hb7.mono (by omega))).trans hb9
  refine ⟨_, rfl, hbel.trans (hall.mono (by omega)), by have := hall.size; omega, hb2.below hall (by omega), hb37.set _, ownsRow_setBox hown7 hb37 (by decide) _, fun base size n v xs h => ?_⟩
  exact ownsRow_setBox (ownsRow_other h hownc hg7 (by decide)) hb37 (by decide) _

theorem three_boxes (w : World) (u : Value) : ∃ W, W = ((w.alloc (.cells #[u] 28)).alloc (.cells #[.slice none 0 0] 28)).alloc (.cells #[.slice none 0 0] 28) ∧ Below w.heap.size w W ∧ W.heap.size = w.heap.size + 3 ∧
    Box W w.heap.size 28 u ∧ Box W (w.heap.size + 1) 28 (.slice none 0 0) ∧ Box W (w.heap.size + 1 + 1) 28 (.slice none 0 0) := by
  refine ⟨_, rfl, below_alloc3 _ _ _ _, by rw [size_alloc, size_alloc, size_alloc], ((Box.new w _ _).alloc _).alloc _, ?_, ?_⟩
  · have := (Box.new (w.alloc (.cells #[u] 28)) (.slice none 0 0) 28).alloc (.cells #[.slice none 0 0] 28)
    rw [size_alloc] at this
    exact this
  · have := Box.new ((w.alloc (.cells #[u] 28)).alloc (.cells #[.slice none 0 0] 28)) (.slice none 0 0) 28
    rw [size_alloc, size_alloc] at this
    exact this

set_option maxRecDepth 100000 in
set_option maxHeartbeats 4000000 in
theorem l1CopyGraph_any (v : Value) (g : List (List Int)) (hl : g.length ≤ 1000) (hrl : ∀ j, (row g j).length ≤ 1000) (w : World) (hg : Gr w v g) :
    Calls Tryd.prog 102 #[v] w fun e w' => ∃ u, e = .returned u ∧ SG w' w.heap.size u g ∧ Below w.heap.size w w' := by
  obtain ⟨u, rfl, hr⟩ := hg
  obtain ⟨p, c, rfl, _⟩ := hr.shape
  have START := Lib.hid (three_boxes w (.slice p g.length c))
  have HR := Lib.hid hr
  have HRL := Lib.hid hrl
  clear hr hrl
  go_enter Tryd.func102, Tryd.ntmps102
  go_upto_region 3 with fail
  go_loopw [4] (fun i wr => ∃ (k : Nat) (ov : Value) (vals : List Value), k ≤ g.length ∧ i = .int .i64 k ∧ Below w.heap.size w wr ∧ Below (w.heap.size + 1) wr wr ∧ w.heap.size + 1 + 2 ≤ wr.heap.size ∧ Box wr w.heap.size 28 (.slice p g.length c) ∧
      Box wr (w.heap.size + 1) 28 (.slice none 0 0) ∧ Box wr (w.heap.size + 1 + 1) 28 ov ∧ wr.ownsRow (w.heap.size + 1 + 2) 26 1 ov k vals ∧ vals.length = k ∧
      ∀ j, j < k → wr.ownsRow (w.heap.size + 1 + 2) 2 1 (vals.getD j undef) (row g j).length ((row g j).map (Value.int .i64)))
    (fun i _ => g.length - (intOf i).toNat)
  case atStart =>
    obtain ⟨W, rfl, h1, h2, h3, h4, h5⟩ := START.out
    exact ⟨0, _, [], Nat.zero_le _, rfl, h1, Below.refl _ _, by omega, h3, h4, h5, World.ownsRow_nil _ _ _ _, rfl, fun j hj => by omega⟩
  case round =>
    obtain ⟨k, ov, vals, hk, rfl, hbel, _, hsz, hbx, hb2, hb3, hown, hvl, hrows⟩ := hrel
    have Hvl := Lib.hid hvl
    have Hrows := Lib.hid hrows
    have Hb2 := Lib.hid hb2
    have Hb3 := Lib.hid hb3
    have Hbx := Lib.hid hbx
    have Hown := Lib.hid hown
    have cbx := hbx.cell
    obtain ⟨p9, c9, rfl⟩ : ∃ p c, ov = .slice p k c := by
      rcases hown.2 with ⟨h1, h2⟩ | ⟨g1, cap, cur, h1, _⟩
      · exact ⟨none, 0, by rw [h1, h2]⟩
      · exact ⟨_, _, h1⟩
    clear hvl hrows hb3 hb2 hown hbx
    by_cases hlt : k < g.length
    · obtain ⟨b, o, rp, rc, rfl, hcell, hnums⟩ := (HR.out.below hbel).get hlt
      change wr.cell? _ = some (.slice rp (row g k).length rc) at hcell
      change Nums wr _ _ (.slice rp (row g k).length rc) (row g k) at hnums
      have Hnums := Lib.hid hnums
      obtain ⟨c3, f3, _, _⟩ := Hb3.out
      obtain ⟨m, hm⟩ : ∃ m, m = (row g k).length := ⟨_, rfl⟩
      have Hm := Lib.hid hm
      have hrk := HRL.out k
      rw [← hm] at hcell Hnums hrk
      clear hnums hm
      go_upto_region 5 with fail
      go_region_law (first
        | (go_simp; go_at_call 87; refine (l1Copy_any _ m ((row g k).map (Value.int .i64)) (fun x hx => by obtain ⟨y, _, rfl⟩ := List.mem_map.1 hx; rfl) (by rw [List.length_map]; exact Hm.out.symm) _ (Sl.below (show Sl wr 2 (.slice rp m rc) m _ from (by have h := Hnums.out; unfold Nums at h; rw [← Hm.out] at h; exact h)) (below_dN (Below.refl _ _) 1))).mono ?_; rintro e w5 ⟨rv, rfl, hown5, hb5⟩; obtain ⟨rvp, rvc, hrv⟩ : ∃ p c, rv = .slice p m c := (by rcases hown5.2 with ⟨rfl, h0⟩ | ⟨b, c, _, rfl, _⟩; exact ⟨none, 0, by rw [h0]⟩; exact ⟨_, _, rfl⟩); subst hrv; have hb5' : Below wr.heap.size wr w5 := ⟨hb5.os, hb5.tape, hb5.output, hb5.size, hb5.block⟩; have hown5' : w5.ownsRow wr.heap.size 2 1 (.slice rvp m rvc) m ((row g k).map (Value.int .i64)) := hown5; have hownc := ownsRow_below Hown.out hb5'; have hs5 := hb5'.size; have hbx5 := hb5'.at' c3; have hbx5a := fun o => (below_alloc w5 o).at' hbx5; have hcx5 := hb5'.at' cbx; have hcx5a := fun o => (below_alloc w5 o).at' hcx5; have hcl5 := hb5'.at' hcell; clear hb5 hown5)
        | (refine step_app1s ty_rows rfl rfl rfl hownc rfl rfl (by omega) (by omega) ?_; intro b7 c8 w7 hown7 hg7; have hb7 := below_grown (Below.refl (w.heap.size + 1 + 2) w5) hownc hg7 (Nat.le_refl _) (by omega); have hob7 := hb7.at (by omega) hbx5; have hof7 := (hb7.frozen (p := ⟨w.heap.size + 1 + 1, 0, none⟩) (by show w.heap.size + 1 + 1 < _; omega)).trans ((hb5'.frozen (p := ⟨w.heap.size + 1 + 1, 0, none⟩) (by show w.heap.size + 1 + 1 < _; omega)).trans f3)))
      all_goals go_wp2
      all_goals go_roundw
      all_goals first
        | (simp [intOf]; omega)
        | skip
      all_goals
        have hb0 : Below (w.heap.size + 1) wr wr := Below.refl _ _
        obtain ⟨W, hW, r1, r2, r3, r4, r5, r6⟩ := box_stepB hb0 hsz hb5' Hb2.out Hb3.out Hown.out hown7 hg7
        subst hW
        have hbW : Below w.heap.size w _ := hbel.trans (r1.mono (by omega))
        refine ⟨k + 1, _, _, by omega, by go_num, hbW, Below.refl _ _, r2, Hbx.out.below r1 (by omega), r3, r4, r5, by simp [Hvl.out], fun j hj => ?_⟩
        by_cases e : j = k
        · subst e
          rw [show (vals ++ [Value.slice rvp m rvc]).getD j undef = .slice rvp m rvc from by rw [← Hvl.out]; exact getD_append_last _ _ _]
          rw [← Hm.out]
          exact ownsRow_base (r6 _ _ _ _ _ hown5') (by omega)
        · rw [getD_append_left _ _ _ _ (by have := Hvl.out; omega)]
          exact r6 _ _ _ _ _ (ownsRow_below (Hrows.out j (by omega)) hb5')
    · obtain rfl : k = g.length := by omega
      obtain ⟨k2c, k2f, _⟩ := Hb2.out
      obtain ⟨k3c, k3f, _⟩ := Hb3.out
      go_wp2
      refine bodyPost_ret (v := .agg #[.slice p9 g.length c9]) (by simp [results, Tryd.results102, go_sem, k2c]) rfl ⟨_, rfl, ⟨_, vals, rfl, Hvl.out, ?_, fun j hj => ?_⟩, ?_⟩
      · exact ownsRow_base (ownsRow_setBox Hown.out Hb2.out (by decide) _) (by omega)
      · exact Nums.of_owns (ownsRow_setBox (Hrows.out j hj) Hb2.out (by decide) _) rfl (by have := HRL.out j; omega)
      · exact hbel.setCell (by show w.heap.size ≤ w.heap.size + 1; omega) _

end Go.Proofs.YtiooindlpinjhaaDoor

/- Walks: the neighbours of a vertex that are left; all of a list linked. -/
namespace Go.Proofs.YtiooindlpinjhaaDoor
open Go.RowKit

structure CQ (w wr : World) (base : Nat) (p : Option Addr) (c m : Nat) (lv : Value) (L : List Nat) (gg : List (List Int)) : Prop where
  sg : SG wr base (.agg #[.slice p m c]) gg
  box : Box wr w.heap.size 28 (.slice p m c)
  res : Box wr (w.heap.size + 1) 28 (.slice none 0 0)
  grown : w.grownBy wr (Value.slice p m c).ownBlock
  list : Nums wr 2 .i64 lv (natInts L)
  own : ∀ k, (Value.slice p m c).ownBlock = some k → k < w.heap.size

theorem SG.other {w w' : World} {base : Nat} {u v : Value} {g : List (List Int)} {xs : List Int} (h : SG w base (.agg #[u]) g) (hn : Nums w 2 .i64 v xs) (hg : w.grownBy w' u.ownBlock) : Nums w' 2 .i64 v xs := by
  obtain ⟨u0, vals, h1, h2, h3, h4⟩ := h
  cases h1
  exact hn.other h3 hg (by decide)

theorem CQ.link {w wr w2 : World} {base : Nat} {p : Option Addr} {c m : Nat} {lv : Value} {L : List Nat} {gg gg' : List (List Int)} (h : CQ w wr base p c m lv L gg)
    (hs : SG w2 base (.agg #[.slice p m c]) gg') (hg : wr.grownBy w2 (Value.slice p m c).ownBlock) : CQ w (w2.setCell ⟨w.heap.size, 0, none⟩ (.slice p m c)) base p c m lv L gg' := by
  have hbox := h.box.grown hg (fun e => by have := h.own _ e.symm; omega)
  have hres := h.res.grown hg (fun e => by have := h.own _ e.symm; omega)
  have hgr := grown_trans h.grown hg
  refine ⟨hs.setBox hbox _, hbox.set _, hres.setOther (by show w.heap.size + 1 ≠ w.heap.size; omega) _, ⟨hgr.os, hgr.tape, hgr.output, by have := hgr.size; simpa [World.setCell] using this, fun b hb hne => ?_⟩, (h.sg.other h.list hg).setBox hbox (by decide) _, h.own⟩
  rw [Below.heap_setCell _ _ _ _ (by show b ≠ w.heap.size; omega)]
  exact hgr.block b hb hne

theorem natInts_get {L : List Nat} {i : Nat} (h : i < L.length) : (natInts L)[i]'(by rw [natInts_length]; exact h) = ((L[i] : Nat) : Int) := by simp [natInts]

end Go.Proofs.YtiooindlpinjhaaDoor

/- Walks: the neighbours of a vertex that are left; the reference's fill. -/
namespace Go.Proofs.YtiooindlpinjhaaDoor
open Go.RowKit

theorem ty_bool : SlTy Tryd.prog 116 4 (.bool false) 1 1 := ⟨Tryd.underlying116, by kernel_rfl, rfl, by decide, by decide⟩
def boolsOf (n : Nat) (gp : Nat → Bool) : List Value := (List.range n).map fun x => .bool (gp x)
theorem boolsOf_get {n : Nat} {gp : Nat → Bool} {x : Nat} (h : x < n) : (boolsOf n gp)[x]? = some (.bool (gp x)) := by simp [boolsOf, h]
theorem filter_snoc {rn : List Nat} {k : Nat} (h : k < rn.length) (q : Nat → Bool) : (rn.take (k + 1)).filter q = (rn.take k).filter q ++ (if q rn[k] then [rn[k]] else []) := by
  rw [List.take_succ_eq_append_getElem h, List.filter_append]
  congr 1
  by_cases e : q rn[k] <;> simp [e]

theorem boolsOf_set {n : Nat} {l : List Nat} {m : Nat} (hm : m < l.length) : (boolsOf n fun x => decide (x ∈ l.take m)).set l[m] (.bool true) = boolsOf n fun x => decide (x ∈ l.take (m + 1)) := by
  refine List.ext_getElem (by simp [boolsOf]) fun j h1 h2 => ?_
  rw [List.getElem_set]
  by_cases e : l[m] = j
  · rw [if_pos e]
    simp [boolsOf, ← e, take_snoc_mem hm]
  · rw [if_neg e]
    have : ¬ j = l[m] := fun h => e h.symm
    simp [boolsOf, take_snoc_mem hm, this]
theorem late_eq {n : Nat} {E : Nat → Nat → Bool} {l : List Nat} {m : Nat} (hm : m < l.length) : ((List.range n).filter (fillP E l m l[m])).filter (fun x => !decide (x ∈ l.take (m + 1))) = lateL n E l m := by
  unfold lateL
  rw [List.filter_filter, getD_nat hm]
  congr 1
  funext x
  unfold laterE
  rw [Bool.eq_iff_iff]
  simp only [Bool.and_eq_true, Bool.not_eq_true', decide_eq_false_iff_not, decide_eq_true_eq]
  exact and_comm

theorem natInts_toNatF {l : List Int} (h : ∀ x ∈ l, 0 ≤ x) : natInts (l.map Int.toNat) = l := by
  unfold natInts
  rw [List.map_map]
  conv => rhs; rw [← List.map_id l]
  exact List.map_congr_left fun x hx => Int.toNat_of_nonneg (h x hx)

structure FL (W0 wr : World) (b5 gb : Nat) (p : Option Addr) (c n : Nat) (E : Nat → Nat → Bool) (l : List Nat) (m q : Nat) : Prop where
  sg : SG wr W0.heap.size (.agg #[.slice p n c]) (matG n (fillP E l m))
  box : Box wr b5 28 (.slice p n c)
  gone : wr.ownsRow gb 4 1 (.slice (some ⟨gb, 0, none⟩) n n) n (boolsOf n fun x => decide (x ∈ l.take q))
  bel : Below W0.heap.size W0 wr
  own : ∀ k, (Value.slice p n c).ownBlock = some k → W0.heap.size ≤ k ∧ k < b5
  hb5 : W0.heap.size ≤ b5
  hgb : b5 < gb

theorem FL.mark {W0 wr : World} {b5 gb : Nat} {p : Option Addr} {c n : Nat} {E : Nat → Nat → Bool} {l : List Nat} {m : Nat} (h : FL W0 wr b5 gb p c n E l m m) (hm : m < l.length) :
    FL W0 (wr.setCell ⟨gb, l[m], none⟩ (.bool true)) b5 gb p c n E l m (m + 1) := by
  obtain ⟨ho2, hg2⟩ := h.gone.stored l[m] (.bool true)
  rw [boolsOf_set hm] at ho2
  have hlt := h.hgb
  have hb := h.hb5
  obtain ⟨u0, vals, h1, h2, h3, h4⟩ := h.sg
  cases h1
  exact ⟨⟨_, vals, rfl, h2, ownsRow_other h3 h.gone hg2 (by decide), fun j hj => (h4 j hj).other h.gone hg2 (by decide)⟩, h.box.setOther (by show b5 ≠ gb; omega) _, ho2, h.bel.setCell (by show W0.heap.size ≤ gb; omega) _, h.own, h.hb5, h.hgb⟩
theorem FL.next {W0 wr w7 : World} {b5 gb : Nat} {p : Option Addr} {c n : Nat} {E : Nat → Nat → Bool} {l : List Nat} {m q : Nat} (h : FL W0 wr b5 gb p c n E l m q) (hb : Below wr.heap.size wr w7) : FL W0 w7 b5 gb p c n E l m q :=
  ⟨h.sg.below hb, h.box.keep hb, ownsRow_below h.gone hb, h.bel.trans (hb.mono h.bel.size), h.own, h.hb5, h.hgb⟩
theorem FL.fill {W0 w7 w8 : World} {b5 gb : Nat} {p : Option Addr} {c n : Nat} {E : Nat → Nat → Bool} {l : List Nat} {m : Nat} (h : FL W0 w7 b5 gb p c n E l m (m + 1))
    (hs : SG w8 W0.heap.size (.agg #[.slice p n c]) (matG n (fillP E l (m + 1)))) (hg : w7.grownBy w8 (Value.slice p n c).ownBlock) : FL W0 (w8.setCell ⟨b5, 0, none⟩ (.slice p n c)) b5 gb p c n E l (m + 1) (m + 1) := by
  have hbox := h.box.grown hg (fun e => by have := (h.own b5 e.symm).2; omega)
  obtain ⟨u0, vals, h1, h2, h3, h4⟩ := h.sg
  cases h1
  exact ⟨hs.setBox hbox _, hbox.set _, ownsRow_setBox (ownsRow_other h.gone h3 hg (by decide)) hbox (by decide) _, (h.bel.grown hg h.bel.size (fun k hk => (h.own k hk).1)).setCell (by show W0.heap.size ≤ b5; exact h.hb5) _, h.own, h.hb5, h.hgb⟩

end Go.Proofs.YtiooindlpinjhaaDoor

/- Walk: the reference's search over those who are gone. -/
namespace Go.Proofs.YtiooindlpinjhaaDoor
open Go.RowKit

theorem rising_first {xs : List Int} {n : Int} (hs : xs.Pairwise (· < ·)) (hm : n ∈ xs) {k : Nat} (hk : k < xs.length) (hlow : ∀ j (hj : j < xs.length), j < k → xs[j] < n) (h : ¬ xs[k] < n) : xs[k] = n := by
  obtain ⟨j, hj, rfl⟩ := List.mem_iff_getElem.1 hm
  rcases Nat.lt_trichotomy j k with h1 | rfl | h1
  · exact absurd (hlow j hj h1) (by omega)
  · rfl
  · exact absurd (List.pairwise_iff_getElem.1 hs k j hk hj h1) h
set_option maxRecDepth 100000 in
set_option maxHeartbeats 1000000 in
theorem l1IntoOld_any (v : Value) (xs : List Int) (n : Int) (hl : xs.length ≤ 100000000) (hs : xs.Pairwise (· < ·)) (hm : n ∈ xs) (w : World) (hx : Nums w 2 .i64 v xs) :
    Calls Tryd.prog 149 #[v, .int .i64 n] w fun e w' => e = .returned v ∧ w = w' := by
  obtain ⟨p, c, rfl, hp, hnc, hn, hat⟩ := hx
  have HS := Lib.hid hs
  have HM := Lib.hid hm
  clear hs hm
  go_enter Tryd.func149, Tryd.ntmps149
  go_wp2
  go_loop [5] (fun i => ∃ k : Nat, k ≤ xs.length ∧ i = .int .i64 k ∧ ∀ j (hj : j < xs.length), j < k → xs[j] < n) (fun i => xs.length - (intOf i).toNat)
  case atStart => exact ⟨0, Nat.zero_le _, rfl, fun j hj h => by omega⟩
  case round =>
    obtain ⟨k, hk, rfl, hlow⟩ := hrel
    have Hlow := Lib.hid hlow
    clear hlow
    by_cases hlt : k < xs.length
    · obtain ⟨b, o, rfl, hcell⟩ := hat.num hlt
      by_cases h1 : xs[k] < n
      · go_wp2
        go_round
        case rel =>
          refine ⟨k + 1, by omega, by go_num, fun j hj h => ?_⟩
          by_cases e : j = k
          · subst e; exact h1
          · exact Hlow.out j hj (by omega)
        case measure => simp [intOf]; omega
      · have h2 := rising_first HS.out HM.out hlt Hlow.out h1
        have h2' : (xs[k] == n) = true := by simpa using h2
        clear h2
        go_wp2
        go_ret
        exact ⟨rfl, rfl⟩
    · exfalso
      obtain ⟨j, hj, hje⟩ := List.mem_iff_getElem.1 HM.out
      have := Hlow.out j hj (by omega)
      omega

/-- The two rows of the search. -/
structure BhW (W0 w : World) (mv : Value) (M : List Nat) (ov : Value) (O : List Int) : Prop where
  bel : Below W0.heap.size W0 w
  met : w.ownsRow W0.heap.size 2 1 mv M.length ((natInts M).map (Value.int .i64))
  out : w.ownsRow W0.heap.size 2 1 ov O.length (O.map (Value.int .i64))
  ne : ∀ k, mv.ownBlock = some k → ov.ownBlock = some k → False
section
variable {W0 w : World} {mv ov : Value} {M : List Nat} {O : List Int}
theorem BhW.next (h : BhW W0 w mv M ov O) {w' : World} (hb : Below w.heap.size w w') : BhW W0 w' mv M ov O :=
  ⟨h.bel.trans (hb.mono h.bel.size), ownsRow_below h.met hb, ownsRow_below h.out hb, h.ne⟩
theorem BhW.add (h : BhW W0 w mv M ov O) {w' : World} {b c y : Nat} (ho : w'.ownsRow W0.heap.size 2 1 (.slice (some ⟨b, 0, none⟩) (M.length + 1) c) (M.length + 1) ((natInts M).map (Value.int .i64) ++ [.int .i64 (y : Int)])) (hg : w.grownBy w' mv.ownBlock)
    (hf : mv.ownBlock = some b ∨ w.heap.size < b) : BhW W0 w' (.slice (some ⟨b, 0, none⟩) (M ++ [y]).length c) (M ++ [y]) ov O where
  bel := below_grown h.bel h.met hg (Nat.le_refl _) h.bel.size
  met := by
    have e : natInts (M ++ [y]) = natInts M ++ [(y : Int)] := by simp [natInts]
    rw [e, List.map_append, List.length_append]
    exact ho
  out := ownsRow_toB h.out fun k e => hg.block k (h.out.lt k e).2 fun c => h.ne k c.symm e
  ne k hk hk2 := by
    have e : b = k := by simpa [Value.ownBlock] using hk
    subst e
    rcases hf with hf | hf
    · exact h.ne b hf hk2
    · have := (h.out.lt b hk2).2; omega
theorem BhW.put (h : BhW W0 w mv M ov O) {w' : World} {ov' : Value} {O' : List Int} (ho : w'.ownsRow w.heap.size 2 1 ov' O'.length (O'.map (Value.int .i64))) (hb : Below w.heap.size w w') : BhW W0 w' mv M ov' O' where
  bel := h.bel.trans (hb.mono h.bel.size)
  met := ownsRow_below h.met hb
  out := ownsRow_base ho h.bel.size
  ne k hk hk2 := by
    have h1 := (h.met.lt k hk).2
    have h2 := (ho.lt k hk2).1
    omega
end
theorem BhW.start (W0 : World) (x : Nat) : BhW W0 ((W0.alloc (.cells #[.int .i64 (x : Int)] 2)).alloc (.cells #[] 2)) (.slice (some ⟨W0.heap.size, 0, none⟩) 1 1) [x] (.slice (some ⟨W0.heap.size + 1, 0, none⟩) 0 0) [] where
  bel := (below_alloc _ _).alloc (by rw [size_alloc]; omega) _
  met := (World.ownsRow_lit (base := W0.heap.size) (e := 2) (size := 1) W0 #[.int .i64 (x : Int)] 1 (Nat.le_refl _) (by decide) rfl).alloc _
  out := ownsRow_empty' _ _ _ _ _ (by omega)
  ne k h1 h2 := by
    simp [Value.ownBlock] at h1 h2
    omega

set_option maxRecDepth 100000 in
set_option maxHeartbeats 8000000 in
theorem l10BehindC_any (v gv : Value) (z : Int) (g : List (List Int)) (s a : Nat) (hz : z = a) (hok : GOk g) (ha : a < g.length) (hsa : s.testBit a = false) (w : World) (hg : Gr w v g) (hn : Sl w 4 gv g.length (boolsOf g.length s.testBit)) :
    Calls Tryd.prog 113 #[v, gv, .int .i64 z] w fun e w' => ∃ p c, e = .returned (.slice p (behS g.length (ofG g) s a).length c) ∧ w'.ownsRow w.heap.size 2 1 (.slice p (behS g.length (ofG g) s a).length c) (behS g.length (ofG g) s a).length ((natInts (behS g.length (ofG g) s a)).map (Value.int .i64)) ∧ Below w.heap.size w w' := by
  subst hz
  have h16 := hok.le
  have hg0 := hg
  obtain ⟨gu, rfl, hr⟩ := hg
  obtain ⟨p, c, rfl, _⟩ := hr.shape
  obtain ⟨qp, qc, rfl, _⟩ := id hn
  have hrow : Hid (∀ j, j < g.length → ∃ R : List Nat, row g j = natInts R ∧ (∀ y ∈ R, y < g.length) ∧ R.length ≤ 16) := Lib.hid (fun j hj => by
    obtain ⟨h1, h2, h3⟩ := setIn_nats (hok.sets j hj).1
    refine ⟨(row g j).map Int.toNat, h1.symm, h3, ?_⟩
    have := setIn_length (by omega) (hok.sets j hj).1
    rw [List.length_map]; omega)
  obtain ⟨W0, hW0⟩ : ∃ W0, W0 = w.alloc (.cells #[.slice p g.length c] 28) := ⟨_, rfl⟩
  have hb0 : Below w.heap.size w W0 := by rw [hW0]; exact below_alloc _ _
  have HB0 := Lib.hid hb0
  have HBG : Hid (Box W0 w.heap.size 28 (.slice p g.length c)) := Lib.hid (by rw [hW0]; exact Box.new _ _ _)
  have HN := Lib.hid (Sl.below hn hb0)
  have HGR := Lib.hid (hr.below hb0)
  have SZ0 := Lib.hid (show W0.heap.size = w.heap.size + 1 by rw [hW0, size_alloc])
  have HEN : Hid (∀ x y, ofG g x y = true → y < g.length) := Lib.hid fun x y h => adjR_lt hok (adjR_sym hok x y (of_decide_eq_true (p := ((y : Int) ∈ row g x)) h))
  have HSA := Lib.hid hsa
  have START := Lib.hid (BhW.start W0 a)
  have BF0 := Lib.hid (BhI.start (E := ofG g) (s := s) ha)
  clear hg0 hb0 hr hn hok hsa
  go_enter Tryd.func113, Tryd.ntmps113
  go_upto_region 1 with fail
  rw [← hW0]
  clear hW0
  go_wp2_with fail
  go_loopw [7, 8, 9] (fun mv ov iv wr => ∃ (mb mc : Nat) (op : Option Addr) (oc : Nat) (M : List Nat) (O : List Int) (i : Nat), mv = .slice (some ⟨mb, 0, none⟩) M.length mc ∧ ov = .slice op O.length oc ∧ iv = .int .i64 i ∧ i ≤ M.length ∧ Hid (BhI g.length (ofG g) s a M O) ∧
      Hid (∀ j, j < i → ∀ u, u < g.length → ofG g (M.getD j 0) u = true → HndB s a M O u) ∧ BhW W0 wr mv M ov O) (fun _ _ iv _ => g.length - (intOf iv).toNat)
  case atStart => exact ⟨_, _, _, _, [a], [], 0, rfl, rfl, rfl, Nat.zero_le _, BF0, Lib.hid (fun j hj => absurd hj (Nat.not_lt_zero _)), START.out⟩
  case round =>
    clear START BF0
    obtain ⟨mb, mc, op, oc, M, O, i, rfl, rfl, rfl, hi, HBF, HTO, hF⟩ := hrel
    have HF := Lib.hid hF
    have hMl := HBF.out.le
    by_cases hlt : i < M.length
    · obtain ⟨x, hx⟩ : ∃ x, x = M[i] := ⟨_, rfl⟩
      have hxM : x ∈ M := by rw [hx]; exact List.getElem_mem hlt
      have hxn := HBF.out.lt x hxM
      have hm : wr.cell? ⟨mb, i, none⟩ = some (.int .i64 (x : Int)) := by rw [hF.met.cellAt i (by omega), hx]; simp [natInts, hlt]
      obtain ⟨R, hR, hRn, hR16⟩ := hrow.out x hxn
      obtain ⟨gb, go, rp, rc, rfl, hce0, hne0⟩ := HGR.out.get (k := x) hxn
      have hce0 : W0.cell? ⟨gb, go + x, none⟩ = some (.slice rp (row g x).length rc) := hce0
      have hne0 : Nums W0 2 .i64 (.slice rp (row g x).length rc) (row g x) := hne0
      rw [hR, natInts_length] at hce0 hne0
      have hce := hF.bel.at' hce0
      have hcg := hF.bel.at (by have := SZ0.out; omega) HBG.out.cell
      have HNR := Lib.hid hne0
      have HRN := Lib.hid hRn
      have HR := Lib.hid hR
      have HX0 : Hid (M[i]? = some x) := Lib.hid (by rw [hx]; simp [hlt])
      clear hF hne0 hce0 hRn hR hx hxM
      go_upto_region 6 with fail
      go_cut [10] (fun sv wx => sv = .slice rp R.length rc ∧ Below wr.heap.size wr wx)
      case first =>
        go_region_held3 (fun w' => w'.cell? ⟨w.heap.size, 0, none⟩ = some (.slice (some ⟨gb, go, none⟩) g.length c) ∧ w'.cell? ⟨mb, i, none⟩ = some (.int .i64 (x : Int)) ∧ w'.cell? ⟨gb, go + x, none⟩ = some (.slice rp R.length rc))
          (first | exact ⟨hcg, hm, hce⟩ | go_keep)
          (first | fail)
        all_goals go_wp2
        all_goals go_meet
        all_goals exact ⟨rfl, below_dN (Below.refl _ _) 1⟩
      case rest =>
      obtain ⟨rfl, hb1⟩ := hcut
      replace HF := Lib.hid (HF.out.next hb1)
      clear hm hce hcg hb1
      go_wp2_with fail
      go_loopw [7, 8, 11] (fun mv ov kv wx => ∃ (mb mc : Nat) (op : Option Addr) (oc : Nat) (M : List Nat) (O : List Int) (k : Nat), mv = .slice (some ⟨mb, 0, none⟩) M.length mc ∧ ov = .slice op O.length oc ∧ kv = .int .i64 k ∧ k ≤ R.length ∧ Hid (BhI g.length (ofG g) s a M O) ∧
        Hid (M[i]? = some x ∧ (∀ j, j < i → ∀ u, u < g.length → ofG g (M.getD j 0) u = true → HndB s a M O u) ∧ ∀ j, j < k → HndB s a M O (R.getD j 0)) ∧ BhW W0 wx mv M ov O) (fun _ _ kv _ => R.length - (intOf kv).toNat)
      case atStart => exact ⟨mb, mc, op, oc, M, O, 0, rfl, rfl, rfl, Nat.zero_le _, HBF, Lib.hid ⟨HX0.out, HTO.out, fun j hj => absurd hj (Nat.not_lt_zero _)⟩, HF.out⟩
      case round =>
        clear HF HBF HTO HX0 hMl hlt hi
        obtain ⟨mb, mc, op, oc, M, O, k, rfl, rfl, rfl, hk, HBF, HTO, hF⟩ := hrel
        have hMl := HBF.out.le
        have hOl := HBF.out.le2
        have hiM : i < M.length := (List.getElem?_eq_some_iff.1 HTO.out.1).1
        have hxM : x ∈ M := List.mem_of_getElem? HTO.out.1
        have HXM := Lib.hid hxM
        have HF := Lib.hid hF
        by_cases hlt : k < R.length
        · obtain ⟨y, hy⟩ : ∃ y, y = R[k] := ⟨_, rfl⟩
          have hyn : y < g.length := by rw [hy]; exact HRN.out _ (List.getElem_mem hlt)
          have hE : Hid (ofG g x y = true) := Lib.hid (by
            unfold ofG
            rw [decide_eq_true_eq, HR.out, hy]
            exact mem_natInts.2 ⟨_, List.getElem_mem hlt, rfl⟩)
          have HYK : Hid (R.getD k 0 = y) := Lib.hid (by rw [hy]; simp [hlt])
          obtain ⟨qb, qo, rfl, hq0⟩ := HNR.out.get (k := k) (by rw [natInts_length]; exact hlt)
          rw [natInts_atC hlt, ← hy] at hq0
          obtain ⟨_, _, e1, _, _, _, hat⟩ := id HN.out
          cases e1
          obtain ⟨tb, to', rfl, hbl⟩ := hat.cells (k := y) (by simp [boolsOf]; exact hyn)
          have hcb0 : W0.cell? ⟨tb, to' + y, none⟩ = some (.bool (s.testBit y)) := hbl _ _ (boolsOf_get hyn)
          have hq := hF.bel.at' hq0
          have hcb := hF.bel.at' hcb0
          have HQ0 := Lib.hid hq0
          have HCB0 := Lib.hid hcb0
          clear hq0 hcb0
          have hstep : ∀ (M' : List Nat) (O' : List Int), (∀ t ∈ M, t ∈ M') → (∀ t ∈ O, t ∈ O') → HndB s a M' O' y → ∀ j, j < k + 1 → HndB s a M' O' (R.getD j 0) := fun M' O' hM hO hh j hj => by
            by_cases e : j < k
            · exact (HTO.out.2.2 j e).mono hM hO
            · rw [show j = k by omega, HYK.out]; exact hh
          have hold : ∀ (M' : List Nat) (O' : List Int), (∀ t ∈ M, t ∈ M') → (∀ t ∈ O, t ∈ O') → (∀ j, j < i → M'.getD j 0 = M.getD j 0) → ∀ j, j < i → ∀ u, u < g.length → ofG g (M'.getD j 0) u = true → HndB s a M' O' u := fun M' O' hM hO he j hj u hu hE => (HTO.out.2.1 j hj u hu (by rw [← he j hj]; exact hE)).mono hM hO
          have HSTEP := Lib.hid hstep
          have HOLD := Lib.hid hold
          have HXI := Lib.hid HTO.out.1
          clear hy hF hxM hat hbl hstep hold HTO
          cases hsy : s.testBit y with
          | true =>
            have HSY := Lib.hid hsy
            rw [hsy] at hcb
            clear hsy
            by_cases hyM : y ∈ M
            · have DY := Lib.hid (dec_true (show (y : Int) ∈ natInts M from mem_natInts.2 ⟨y, hyM, rfl⟩))
              have HYM := Lib.hid hyM
              clear hyM
              go_wp2_with (go_at_call 72; refine (l1Has_any _ (natInts M) y _ (Nums.of_owns HF.out.met (natInts_length M).symm (by omega))).mono ?_; rintro e w4 ⟨he4, hw4⟩; rw [DY.out] at he4; subst he4; subst hw4)
              go_roundw
              case rel => exact ⟨mb, mc, op, oc, M, O, k + 1, rfl, rfl, by go_num, by omega, HBF, Lib.hid ⟨HXI.out, HOLD.out _ _ (fun _ h => h) (fun _ h => h) (fun _ _ => rfl), HSTEP.out _ _ (fun _ h => h) (fun _ h => h) ⟨fun _ => HYM.out, fun h => (by rw [HSY.out] at h; cases h)⟩⟩, HF.out⟩
              case measure => simp [intOf]; omega
            · have DY := Lib.hid (dec_false (show ¬ (y : Int) ∈ natInts M from fun h => by
                obtain ⟨y', h1, h2⟩ := mem_natInts.1 h
                have : y' = y := by omega
                exact hyM (this ▸ h1)))
              have HYM := Lib.hid hyM
              have HADD := Lib.hid (HBF.out.add HXM.out hE.out hyn HSY.out hyM)
              have lo := HF.out.bel.size
              clear hyM
              go_wp2_with (first
                | (go_at_call 72; refine (l1Has_any _ (natInts M) y _ (Nums.of_owns HF.out.met (natInts_length M).symm (by omega))).mono ?_; rintro e w4 ⟨he4, hw4⟩; rw [DY.out] at he4; subst he4; subst hw4)
                | (at_builtin; refine wpList_app1s ty_i64 rfl rfl rfl HF.out.met rfl rfl (by omega) lo ?_; intro b7 c8 w7 hown7 hg7 hf7; have HF7 := Lib.hid (HF.out.add hown7 hg7 hf7); have hq7 := HF7.out.bel.at' HQ0.out; have hcb7 := HF7.out.bel.at' HCB0.out; rw [HSY.out] at hcb7; clear hown7 hg7 hf7))
              go_roundw
              case rel => exact ⟨b7, c8, op, oc, M ++ [y], O, k + 1, by simp, rfl, by go_num, by omega, HADD, Lib.hid ⟨by rw [List.getElem?_append_left hiM]; exact HXI.out, HOLD.out _ _ (fun _ h => List.mem_append_left _ h) (fun _ h => h) (fun j hj => by rw [List.getD_eq_getElem?_getD, List.getElem?_append_left (by omega), ← List.getD_eq_getElem?_getD]), HSTEP.out _ _ (fun _ h => List.mem_append_left _ h) (fun _ h => h) ⟨fun _ => by simp, fun h => (by rw [HSY.out] at h; cases h)⟩⟩, by have := HF7.out; rwa [List.length_append, List.length_singleton] at this⟩
              case measure => simp [intOf]; omega
          | false =>
            have HSY := Lib.hid hsy
            rw [hsy] at hcb
            clear hsy
            by_cases hya : y = a
            · have HYA := Lib.hid hya
              have hne : ((y : Int) != (a : Int)) = false := by simp; omega
              clear hya
              go_wp2_with fail
              go_roundw
              case rel => exact ⟨mb, mc, op, oc, M, O, k + 1, rfl, rfl, by go_num, by omega, HBF, Lib.hid ⟨HXI.out, HOLD.out _ _ (fun _ h => h) (fun _ h => h) (fun _ _ => rfl), HSTEP.out _ _ (fun _ h => h) (fun _ h => h) ⟨fun h => (by rw [HSY.out] at h; cases h), fun _ h => absurd HYA.out h⟩⟩, HF.out⟩
              case measure => simp [intOf]; omega
            · have HYA := Lib.hid hya
              have hne : ((y : Int) != (a : Int)) = true := by simp; omega
              have HNO : Hid (Nums wr 2 .i64 (.slice op O.length oc) O) := Lib.hid (Nums.of_owns HF.out.out rfl (by omega))
              have HPUT := Lib.hid (HBF.out.put HXM.out hE.out hyn HSY.out hya)
              clear hya
              by_cases hyO : (y : Int) ∈ O
              · have HEQ : Hid (intoL O y = O) := Lib.hid (rising_ext_int _ _ (intoL_rising HBF.out.ris) HBF.out.ris fun t => by
                  rw [mem_intoL]
                  exact ⟨fun h => h.elim id fun e => e ▸ hyO, .inl⟩)
                have HYO := Lib.hid hyO
                clear hyO
                go_wp2_with (go_at_call 149; refine (l1IntoOld_any _ O y (by omega) HBF.out.ris HYO.out _ HNO.out).mono ?_; rintro e w4 ⟨rfl, rfl⟩)
                go_roundw
                case rel => exact ⟨mb, mc, op, oc, M, O, k + 1, rfl, rfl, by go_num, by omega, HBF, Lib.hid ⟨HXI.out, HOLD.out _ _ (fun _ h => h) (fun _ h => h) (fun _ _ => rfl), HSTEP.out _ _ (fun _ h => h) (fun _ h => h) ⟨fun h => (by rw [HSY.out] at h; cases h), fun _ _ => HYO.out⟩⟩, HF.out⟩
                case measure => simp [intOf]; omega
              · have HYO := Lib.hid hyO
                clear hyO
                go_wp2_with (go_at_call 149; refine (l1IntoNew_any _ O y (by omega) HYO.out _ HNO.out).mono ?_; rintro e w4 ⟨u4, rfl, ho4, hb4⟩; obtain ⟨p4, c4, rfl⟩ := owns_shapeB ho4; have HF4 := Lib.hid (HF.out.put ho4 hb4); clear ho4 hb4)
                go_roundw
                case rel => exact ⟨mb, mc, p4, c4, M, intoL O y, k + 1, rfl, rfl, by go_num, by omega, HPUT, Lib.hid ⟨HXI.out, HOLD.out _ _ (fun _ h => h) (fun _ h => mem_intoL.2 (.inl h)) (fun _ _ => rfl), HSTEP.out _ _ (fun _ h => h) (fun _ h => mem_intoL.2 (.inl h)) ⟨fun h => (by rw [HSY.out] at h; cases h), fun _ _ => mem_intoL.2 (.inr rfl)⟩⟩, HF4.out⟩
                case measure => simp [intOf]; omega
        · obtain rfl : k = R.length := by omega
          have HT2 : Hid (∀ j, j < i + 1 → ∀ u, u < g.length → ofG g (M.getD j 0) u = true → HndB s a M O u) := Lib.hid (fun j hj u hu hEu => by
            by_cases e : j < i
            · exact HTO.out.2.1 j e u hu hEu
            · obtain rfl : j = i := by omega
              have e1 : M.getD j 0 = x := by simp [HTO.out.1]
              rw [e1] at hEu
              unfold ofG at hEu
              rw [decide_eq_true_eq, HR.out] at hEu
              obtain ⟨y', h1, h2⟩ := mem_natInts.1 hEu
              obtain rfl : y' = u := by omega
              obtain ⟨t, ht, e2⟩ := List.getElem_of_mem h1
              have e3 : R.getD t 0 = y' := by simp [ht, e2]
              have := HTO.out.2.2 t ht
              rwa [e3] at this)
          clear hF hxM
          go_wp2_with fail
          go_roundw
          case rel => exact ⟨mb, mc, op, oc, M, O, i + 1, rfl, rfl, by go_num, by omega, HBF, HT2, HF.out⟩
          case measure => simp [intOf]; omega
    · obtain rfl : i = M.length := by omega
      have hdone : O = natInts (behS g.length (ofG g) s a) := HBF.out.done (fun x hx u hu hE => by
        obtain ⟨j, hj, rfl⟩ := List.mem_iff_getElem.1 hx
        exact HTO.out j hj u hu (by rw [List.getD_eq_getElem?_getD, List.getElem?_eq_getElem hj]; exact hE)) HEN.out
      have hlen : O.length = (behS g.length (ofG g) s a).length := by rw [hdone, natInts_length]
      have HLEN := Lib.hid hlen
      have HDON := Lib.hid hdone
      clear hF hdone hlen
      go_wp2_with fail
      go_ret
      refine ⟨op, oc, by rw [HLEN.out]; rfl, ?_, HB0.out.trans (HF.out.bel.mono HB0.out.size)⟩
      have h9 := ownsRow_base HF.out.out HB0.out.size
      rw [HLEN.out] at h9
      rw [← HDON.out]
      exact h9
theorem l10Behind_any (v gv : Value) (z : Int) (g : List (List Int)) (s a : Nat) (hz : z = a) (hok : GOk g) (ha : a < g.length) (hsa : s.testBit a = false) (w : World) (hg : Gr w v g) (hn : Sl w 4 gv g.length (boolsOf g.length s.testBit)) :
    Calls Tryd.prog 113 #[v, gv, .int .i64 z] w fun e w' => ∃ p c, e = .returned (.slice p (behS g.length (ofG g) s a).length c) ∧ Below w.heap.size w w' :=
  (l10BehindC_any v gv z g s a hz hok ha hsa w hg hn).mono fun _ _ ⟨p, c, h1, _, h2⟩ => ⟨p, c, h1, h2⟩

end Go.Proofs.YtiooindlpinjhaaDoor
