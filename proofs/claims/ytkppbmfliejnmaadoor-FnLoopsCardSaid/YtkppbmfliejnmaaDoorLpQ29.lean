/- Plain: the least of the loops that begin with the edges seen so far. -/
import Derived.Test.YtkppbmfliejnmaaDoorLpQ28
import Derived.Test.YtkppbmfliejnmaaDoorLpQ6
import Derived.Test.YtkppbmfliejnmaaDoorLpQ10
import Derived.Test.YtkppbmfliejnmaaDoorLpQ8
import Derived.Test.YtkppbmfliejnmaaDoorLpQ2
namespace Go.Proofs.YtkppbmfliejnmaaDoor

theorem edge_none {g c : List (List Int)} (hg : GOk g) (hc : GOk c) (hcl : c.length = g.length) {s a : Nat} (hs : s < g.length) (hu : a < g.length) (hcE : ∀ p q, p < g.length → q < g.length → ofG c p q = cutE (ofG g) s a p q) {F : List Int} (hF : DstF c s F) (hneg : F.getD a 0 < 0) (R : List Nat) : ¬ LpOk g.length (ofG g) (s :: a :: R) := by
  intro hR
  have hRn := hR.nod
  have hRl := hR.long
  have hsR : s ∉ a :: R := (List.nodup_cons.1 hRn).1
  have haR : a ∉ R := (List.nodup_cons.1 (List.nodup_cons.1 hRn).2).1
  have hne : R ≠ [] := fun e => by rw [e] at hRl; simp at hRl
  have hchR : Chn (ofG c) ((a :: R) ++ [s]) := by
    rw [chn_at]
    intro i hi
    have hgood : ∀ p q, p < g.length → q < g.length → ofG g p q = true → ¬ (p = s ∧ q = a) → ¬ (p = a ∧ q = s) → ofG c p q = true := fun p q hp hq e n1 n2 => by
      rw [hcE p q hp hq]
      unfold cutE
      rw [e, Bool.true_and, Bool.not_eq_true', Bool.or_eq_false_iff]
      exact ⟨by simpa using fun e1 e2 => n1 ⟨e1, e2⟩, by simpa using fun e1 e2 => n2 ⟨e1, e2⟩⟩
    have hin := hR.inn
    by_cases hlast : i + 1 < (a :: R).length
    · have e1 : ((a :: R) ++ [s])[i]'(by omega) = (a :: R)[i]'(by omega) := List.getElem_append_left _
      have e2 : ((a :: R) ++ [s])[i + 1] = (a :: R)[i + 1] := List.getElem_append_left _
      rw [e1, e2]
      have m1 : (a :: R)[i]'(by omega) ∈ a :: R := List.getElem_mem _
      have m2 : (a :: R)[i + 1] ∈ a :: R := List.getElem_mem _
      refine hgood _ _ (hin _ (List.mem_cons_of_mem _ m1)) (hin _ (List.mem_cons_of_mem _ m2)) ((chn_at _).1 hR.chn.2 i hlast) (fun e => hsR (e.1 ▸ m1)) (fun e => hsR (e.2 ▸ m2))
    · have hi2 : i + 1 = (a :: R).length := by rw [List.length_append, List.length_singleton] at hi; omega
      have e1 : ((a :: R) ++ [s])[i]'(by omega) = (a :: R)[i]'(by omega) := List.getElem_append_left _
      have e2 : ((a :: R) ++ [s])[i + 1] = s := by
        rw [List.getElem_append_right (by omega)]
        simp [hi2]
      rw [e1, e2]
      have m1 : (a :: R)[i]'(by omega) ∈ a :: R := List.getElem_mem _
      have hb := hR.back
      have e3 : (s :: a :: R).getLastD 0 = (a :: R)[i]'(by omega) := by
        have : (s :: a :: R).getLastD 0 = (a :: R).getLastD 0 := rfl
        rw [this, last_getD (by simp)]
        simp [← hi2]
      rw [e3] at hb
      refine hgood _ _ (hin _ (List.mem_cons_of_mem _ m1)) hs hb (fun e => hsR (e.1 ▸ m1)) (fun e => ?_)
      have hi1 : i = R.length := by simpa using hi2
      have hpos := List.length_pos_iff.2 hne
      have : (a :: R)[i]'(by omega) ∈ R := by
        obtain ⟨j, rfl⟩ : ∃ j, i = j + 1 := ⟨i - 1, by omega⟩
        exact List.getElem_mem _
      exact haR (e.1 ▸ this)
  have hlastR : ((a :: R) ++ [s]).getLastD 0 = s := by rw [List.getLastD_eq_getLast?, List.getLast?_append]; simp
  have hinR : ∀ y ∈ a :: (R ++ [s]), y < c.length := fun y hy => by
    rw [hcl]
    rcases List.mem_cons.1 hy with rfl | hy
    · exact hu
    · rcases List.mem_append.1 hy with hy | hy
      · exact hR.inn y (by simp [hy])
      · obtain rfl : y = s := by simpa using hy
        exact hs
  have hlw := chn_lw (ofG_sym hc) (R ++ [s]) a hchR hlastR hinR
  have hd := (dst_le hF (by rw [hcl]; exact hu) hlw).1
  omega

/-- The least of the loops that begin with a vertex before s, or with s and one of T. -/
def BestL (n : Nat) (E : Nat → Nat → Bool) (s : Nat) (T B : List Nat) : Prop := (B = [] ∨ LpOk n E B) ∧ ∀ L, LpOk n E L → (L.headD 0 < s ∨ (L.headD 0 = s ∧ L.getD 1 0 ∈ T)) → B ≠ [] ∧ ¬ lessP L B
theorem BestL.start {n : Nat} {E : Nat → Nat → Bool} : BestL n E 0 [] [] := ⟨.inl rfl, fun L _ h => by
  rcases h with h | ⟨_, h⟩
  · omega
  · cases h⟩
theorem LpOk.two {n : Nat} {E : Nat → Nat → Bool} {L : List Nat} (h : LpOk n E L) : ∃ s u R, L = s :: u :: R := by
  have := h.long
  match L with
  | s :: u :: R => exact ⟨s, u, R, rfl⟩
  | [_] => simp at this
  | [] => simp at this
theorem BestL.len {n : Nat} {E : Nat → Nat → Bool} {s : Nat} {T B : List Nat} (h : BestL n E s T B) (hn : n ≤ 16) : B.length ≤ 16 := by
  rcases h.1 with rfl | h
  · simp
  · have := nodup_le n B h.nod h.inn
    omega
theorem BestL.skip {n : Nat} {E : Nat → Nat → Bool} {s : Nat} {T B : List Nat} (h : BestL n E s T B) {u : Nat} (hno : ∀ R, ¬ LpOk n E (s :: u :: R)) : BestL n E s (T ++ [u]) B := ⟨h.1, fun L hL hd => by
  rcases hd with hd | ⟨h1, h2⟩
  · exact h.2 L hL (.inl hd)
  · rcases List.mem_append.1 h2 with h2 | h2
    · exact h.2 L hL (.inr ⟨h1, h2⟩)
    · obtain ⟨a, b, R, rfl⟩ := hL.two
      obtain rfl : a = s := h1
      obtain rfl : b = u := by simpa using h2
      exact absurd hL (hno R)⟩
theorem BestL.take {n : Nat} {E : Nat → Nat → Bool} {s : Nat} {T B P : List Nat} (h : BestL n E s T B) {u : Nat} (hok : LpOk n E (s :: P)) (hle : ∀ R, LpOk n E (s :: u :: R) → ¬ lessP (s :: u :: R) (s :: P)) (hl : B = [] ∨ lessP (s :: P) B) : BestL n E s (T ++ [u]) (s :: P) := ⟨.inr hok, fun L hL hd => by
  refine ⟨by simp, fun hlt => ?_⟩
  have old : (L.headD 0 < s ∨ (L.headD 0 = s ∧ L.getD 1 0 ∈ T)) → False := fun hd => by
    obtain ⟨h1, h2⟩ := h.2 L hL hd
    rcases hl with hl | hl
    · exact h1 hl
    · exact h2 (lessP_trans hlt hl)
  rcases hd with hd | ⟨h1, h2⟩
  · exact old (.inl hd)
  · rcases List.mem_append.1 h2 with h2 | h2
    · exact old (.inr ⟨h1, h2⟩)
    · obtain ⟨a, b, R, rfl⟩ := hL.two
      obtain rfl : a = s := h1
      obtain rfl : b = u := by simpa using h2
      exact hle R hL hlt⟩
theorem BestL.hold {n : Nat} {E : Nat → Nat → Bool} {s : Nat} {T B P : List Nat} (h : BestL n E s T B) {u : Nat} (hle : ∀ R, LpOk n E (s :: u :: R) → ¬ lessP (s :: u :: R) (s :: P)) (hB : B ≠ []) (hl : ¬ lessP (s :: P) B) : BestL n E s (T ++ [u]) B := ⟨h.1, fun L hL hd => by
  rcases hd with hd | ⟨h1, h2⟩
  · exact h.2 L hL (.inl hd)
  · rcases List.mem_append.1 h2 with h2 | h2
    · exact h.2 L hL (.inr ⟨h1, h2⟩)
    · obtain ⟨a, b, R, rfl⟩ := hL.two
      obtain rfl : a = s := h1
      obtain rfl : b = u := by simpa using h2
      refine ⟨hB, fun hlt => ?_⟩
      by_cases e : lessP B (a :: P)
      · exact hle R hL (lessP_trans hlt e)
      · have := lessP_tri hl e
        rw [← this] at hlt
        exact hle R hL hlt⟩
theorem BestL.next {n : Nat} {E : Nat → Nat → Bool} {s : Nat} {T B : List Nat} (h : BestL n E s T B) (hT : ∀ u, u < n → E s u = true → u ∈ T) : BestL n E (s + 1) [] B := ⟨h.1, fun L hL hd => by
  rcases hd with hd | ⟨_, h2⟩
  · by_cases e : L.headD 0 = s
    · obtain ⟨a, b, R, rfl⟩ := hL.two
      obtain rfl : a = s := e
      exact h.2 _ hL (.inr ⟨rfl, hT b (hL.inn b (by simp)) hL.chn.1⟩)
    · exact h.2 L hL (.inl (by omega))
  · cases h2⟩
theorem BestL.fin {n : Nat} {E : Nat → Nat → Bool} {B : List Nat} (h : BestL n E n [] B) : (B = [] ∧ ¬ ∃ L, LpOk n E L) ∨ LeastLp n E B := by
  have all : ∀ L, LpOk n E L → B ≠ [] ∧ ¬ lessP L B := fun L hL => h.2 L hL (.inl (by
    obtain ⟨a, b, R, rfl⟩ := hL.two
    exact hL.inn a (by simp)))
  rcases h.1 with e | e
  · exact .inl ⟨e, fun ⟨L, hL⟩ => (all L hL).1 e⟩
  · exact .inr ⟨e, fun L hL => (all L hL).2⟩

end Go.Proofs.YtkppbmfliejnmaaDoor

/- Walks: a copy of a graph; the neighbours that are left. -/
namespace Go.Proofs.YtkppbmfliejnmaaDoor
open Go.RowKit

theorem box_stepB {w wr wc w7 : World} {B k b7 c8 : Nat} {ov x rv : Value} {vals : List Value}
    (hbel : Below B w wr) (hsz : B + 2 ≤ wr.heap.size) (hbc : Below wr.heap.size wr wc)
    (hb2 : Box wr B 29 x) (hb3 : Box wr (B + 1) 29 ov) (hown : wr.ownsRow (B + 2) 33 1 ov k vals)
    (hown7 : w7.ownsRow (B + 2) 33 1 (.slice (some ⟨b7, 0, none⟩) (k + 1) c8) (k + 1) (vals ++ [rv])) (hg7 : wc.grownBy w7 ov.ownBlock) :
    ∃ W, W = w7.setCell ⟨B + 1, 0, none⟩ (.slice (some ⟨b7, 0, none⟩) (k + 1) c8) ∧
      Below B w W ∧ B + 2 ≤ W.heap.size ∧ Box W B 29 x ∧ Box W (B + 1) 29 (.slice (some ⟨b7, 0, none⟩) (k + 1) c8) ∧ W.ownsRow (B + 2) 33 1 (.slice (some ⟨b7, 0, none⟩) (k + 1) c8) (k + 1) (vals ++ [rv]) ∧
      (∀ base size n v (xs : List Value), wc.ownsRow base 2 size v n xs → W.ownsRow base 2 size v n xs) := by
  have hownc := ownsRow_below hown hbc
  have hszc := hbc.size
  have hsz7 := hg7.size
  have hb7 : Below (B + 2) wc w7 := below_grown (Below.refl _ _) hownc hg7 (Nat.le_refl _) (by omega)
  have hb37 : Box w7 (B + 1) 29 ov := (hb3.keep hbc).below hb7 (by omega)
  have hb9 : Below (B + 1) w7 (w7.setCell ⟨B + 1, 0, none⟩ (.slice (some ⟨b7, 0, none⟩) (k + 1) c8)) := (Below.refl _ _).setCell (by show B + 1 ≤ B + 1; omega) _
  have hall : Below (B + 1) wr (w7.setCell ⟨B + 1, 0, none⟩ (.slice (some ⟨b7, 0, none⟩) (k + 1) c8)) := ((hbc.mono (by omega)).trans (hb7.mono (by omega))).trans hb9
  refine ⟨_, rfl, hbel.trans (hall.mono (by omega)), by have := hall.size; omega, hb2.below hall (by omega), hb37.set _, ownsRow_setBox hown7 hb37 (by decide) _, fun base size n v xs h => ?_⟩
  exact ownsRow_setBox (ownsRow_other h hownc hg7 (by decide)) hb37 (by decide) _

theorem three_boxes (w : World) (u : Value) : ∃ W, W = ((w.alloc (.cells #[u] 29)).alloc (.cells #[.slice none 0 0] 29)).alloc (.cells #[.slice none 0 0] 29) ∧ Below w.heap.size w W ∧ W.heap.size = w.heap.size + 3 ∧
    Box W w.heap.size 29 u ∧ Box W (w.heap.size + 1) 29 (.slice none 0 0) ∧ Box W (w.heap.size + 1 + 1) 29 (.slice none 0 0) := by
  refine ⟨_, rfl, below_alloc3 _ _ _ _, by rw [size_alloc, size_alloc, size_alloc], ((Box.new w _ _).alloc _).alloc _, ?_, ?_⟩
  · have := (Box.new (w.alloc (.cells #[u] 29)) (.slice none 0 0) 29).alloc (.cells #[.slice none 0 0] 29)
    rw [size_alloc] at this
    exact this
  · have := Box.new ((w.alloc (.cells #[u] 29)).alloc (.cells #[.slice none 0 0] 29)) (.slice none 0 0) 29
    rw [size_alloc, size_alloc] at this
    exact this

set_option maxRecDepth 100000 in
set_option maxHeartbeats 4000000 in
theorem l1CopyGraph_any (v : Value) (g : List (List Int)) (hl : g.length ≤ 1000) (hrl : ∀ j, (row g j).length ≤ 1000) (w : World) (hg : Gr w v g) :
    Calls Tryd.prog 216 #[v] w fun e w' => ∃ u, e = .returned u ∧ SG w' w.heap.size u g ∧ Below w.heap.size w w' := by
  obtain ⟨u, rfl, hr⟩ := hg
  obtain ⟨p, c, rfl, _⟩ := hr.shape
  have START := Lib.hid (three_boxes w (.slice p g.length c))
  have HR := Lib.hid hr
  have HRL := Lib.hid hrl
  clear hr hrl
  go_enter Tryd.func216, Tryd.ntmps216
  go_upto_region 3 with fail
  go_loopw [4] (fun i wr => ∃ (k : Nat) (ov : Value) (vals : List Value), k ≤ g.length ∧ i = .int .i64 k ∧ Below w.heap.size w wr ∧ Below (w.heap.size + 1) wr wr ∧ w.heap.size + 1 + 2 ≤ wr.heap.size ∧ Box wr w.heap.size 29 (.slice p g.length c) ∧
      Box wr (w.heap.size + 1) 29 (.slice none 0 0) ∧ Box wr (w.heap.size + 1 + 1) 29 ov ∧ wr.ownsRow (w.heap.size + 1 + 2) 33 1 ov k vals ∧ vals.length = k ∧
      ∀ j, j < k → wr.ownsRow (w.heap.size + 1 + 2) 2 1 (vals.getD j undef) (row g j).length ((row g j).map (Value.int .i64)))
    (fun i _ => g.length - (intOf i).toNat)
  case atStart =>
    obtain ⟨W, rfl, h1, h2, h3, h4, h5⟩ := START.out
    exact ⟨0, _, [], Nat.zero_le _, rfl, h1, Below.refl _ _, by omega, h3, h4, h5, World.ownsRow_nil _ _ _ _, rfl, fun j hj => by omega⟩
  case round =>
    obtain ⟨k, ov, vals, hk, rfl, hbel, _, hsz, hbx, hb2, hb3, hown, hvl, hrows⟩ := hrel
    have Hvl := Lib.hid hvl
    have Hrows := Lib.hid hrows
    have Hb2 := Lib.hid hb2
    have Hb3 := Lib.hid hb3
    have Hbx := Lib.hid hbx
    have Hown := Lib.hid hown
    have cbx := hbx.cell
    obtain ⟨p9, c9, rfl⟩ : ∃ p c, ov = .slice p k c := by
      rcases hown.2 with ⟨h1, h2⟩ | ⟨g1, cap, cur, h1, _⟩
      · exact ⟨none, 0, by rw [h1, h2]⟩
      · exact ⟨_, _, h1⟩
    clear hvl hrows hb3 hb2 hown hbx
    by_cases hlt : k < g.length
    · obtain ⟨b, o, rp, rc, rfl, hcell, hnums⟩ := (HR.out.below hbel).get hlt
      change wr.cell? _ = some (.slice rp (row g k).length rc) at hcell
      change Nums wr _ _ (.slice rp (row g k).length rc) (row g k) at hnums
      have Hnums := Lib.hid hnums
      obtain ⟨c3, f3, _, _⟩ := Hb3.out
      obtain ⟨m, hm⟩ : ∃ m, m = (row g k).length := ⟨_, rfl⟩
      have Hm := Lib.hid hm
      have hrk := HRL.out k
      rw [← hm] at hcell Hnums hrk
      clear hnums hm
      go_upto_region 5 with fail
      go_region_law (first
        | (go_simp; go_at_call 200; refine (l1Copy_any _ m ((row g k).map (Value.int .i64)) (fun x hx => by obtain ⟨y, _, rfl⟩ := List.mem_map.1 hx; rfl) (by rw [List.length_map]; exact Hm.out.symm) _ (Sl.below (show Sl wr 2 (.slice rp m rc) m _ from (by have h := Hnums.out; unfold Nums at h; rw [← Hm.out] at h; exact h)) (below_dN (Below.refl _ _) 1))).mono ?_; rintro e w5 ⟨rv, rfl, hown5, hb5⟩; obtain ⟨rvp, rvc, hrv⟩ : ∃ p c, rv = .slice p m c := (by rcases hown5.2 with ⟨rfl, h0⟩ | ⟨b, c, _, rfl, _⟩; exact ⟨none, 0, by rw [h0]⟩; exact ⟨_, _, rfl⟩); subst hrv; have hb5' : Below wr.heap.size wr w5 := ⟨hb5.os, hb5.tape, hb5.output, hb5.size, hb5.block⟩; have hown5' : w5.ownsRow wr.heap.size 2 1 (.slice rvp m rvc) m ((row g k).map (Value.int .i64)) := hown5; have hownc := ownsRow_below Hown.out hb5'; have hs5 := hb5'.size; have hbx5 := hb5'.at' c3; have hbx5a := fun o => (below_alloc w5 o).at' hbx5; have hcx5 := hb5'.at' cbx; have hcx5a := fun o => (below_alloc w5 o).at' hcx5; have hcl5 := hb5'.at' hcell; clear hb5 hown5)
        | (refine step_app1s ty_rows rfl rfl rfl hownc rfl rfl (by omega) (by omega) ?_; intro b7 c8 w7 hown7 hg7; have hb7 := below_grown (Below.refl (w.heap.size + 1 + 2) w5) hownc hg7 (Nat.le_refl _) (by omega); have hob7 := hb7.at (by omega) hbx5; have hof7 := (hb7.frozen (p := ⟨w.heap.size + 1 + 1, 0, none⟩) (by show w.heap.size + 1 + 1 < _; omega)).trans ((hb5'.frozen (p := ⟨w.heap.size + 1 + 1, 0, none⟩) (by show w.heap.size + 1 + 1 < _; omega)).trans f3)))
      all_goals go_wp2
      all_goals go_roundw
      all_goals first
        | (simp [intOf]; omega)
        | skip
      all_goals
        have hb0 : Below (w.heap.size + 1) wr wr := Below.refl _ _
        obtain ⟨W, hW, r1, r2, r3, r4, r5, r6⟩ := box_stepB hb0 hsz hb5' Hb2.out Hb3.out Hown.out hown7 hg7
        subst hW
        have hbW : Below w.heap.size w _ := hbel.trans (r1.mono (by omega))
        refine ⟨k + 1, _, _, by omega, by go_num, hbW, Below.refl _ _, r2, Hbx.out.below r1 (by omega), r3, r4, r5, by simp [Hvl.out], fun j hj => ?_⟩
        by_cases e : j = k
        · subst e
          rw [show (vals ++ [Value.slice rvp m rvc]).getD j undef = .slice rvp m rvc from by rw [← Hvl.out]; exact getD_append_last _ _ _]
          rw [← Hm.out]
          exact ownsRow_base (r6 _ _ _ _ _ hown5') (by omega)
        · rw [getD_append_left _ _ _ _ (by have := Hvl.out; omega)]
          exact r6 _ _ _ _ _ (ownsRow_below (Hrows.out j (by omega)) hb5')
    · obtain rfl : k = g.length := by omega
      obtain ⟨k2c, k2f, _⟩ := Hb2.out
      obtain ⟨k3c, k3f, _⟩ := Hb3.out
      go_wp2
      refine bodyPost_ret (v := .agg #[.slice p9 g.length c9]) (by simp [results, Tryd.results216, go_sem, k2c]) rfl ⟨_, rfl, ⟨_, vals, rfl, Hvl.out, ?_, fun j hj => ?_⟩, ?_⟩
      · exact ownsRow_base (ownsRow_setBox Hown.out Hb2.out (by decide) _) (by omega)
      · exact Nums.of_owns (ownsRow_setBox (Hrows.out j hj) Hb2.out (by decide) _) rfl (by have := HRL.out j; omega)
      · exact hbel.setCell (by show w.heap.size ≤ w.heap.size + 1; omega) _

end Go.Proofs.YtkppbmfliejnmaaDoor

/- Two boxes. -/
namespace Go.Proofs.YtkppbmfliejnmaaDoor
open Go.RowKit

theorem two_boxesM (w : World) (a b : Value) (T1 T2 : TypeId) : ∃ W, W = (w.alloc (.cells #[a] T1)).alloc (.cells #[b] T2) ∧ Below w.heap.size w W ∧ W.heap.size = w.heap.size + 2 ∧ Box W w.heap.size T1 a ∧ Box W (w.heap.size + 1) T2 b := by
  have h2 := Box.new (w.alloc (.cells #[a] T1)) b T2
  rw [size_alloc] at h2
  exact ⟨_, rfl, below_alloc2 _ _ _, by rw [size_alloc, size_alloc], (Box.new w a T1).alloc _, h2⟩

end Go.Proofs.YtkppbmfliejnmaaDoor
