/- Walk: a graph made of masks. -/
import Derived.Test.YtkppbmfliejnmaaDoorLpQ8
import Derived.Deep.RegionLaw
namespace Go.Proofs.YtkppbmfliejnmaaDoor
open Go.RowKit

/-- The first k rows are the callee's own, each in a block of its own. -/
structure Dis (w : World) (base k : Nat) (vals : List Value) (g : List (List Int)) : Prop where
  rows : ∀ j, j < k → w.ownsRow base 2 1 (vals.getD j undef) (row g j).length ((row g j).map (Value.int .i64))
  dis : ∀ i j, i < k → j < k → i ≠ j → ∀ b, (vals.getD i undef).ownBlock = some b → (vals.getD j undef).ownBlock ≠ some b
def DG (w : World) (base : Nat) (v : Value) (g : List (List Int)) : Prop :=
  ∃ u vals, v = .agg #[u] ∧ vals.length = g.length ∧ w.ownsRow base 33 1 u g.length vals ∧ Dis w base g.length vals g

theorem DG.below {w w' : World} {base : Nat} {v : Value} {g : List (List Int)} (h : DG w base v g) (hb : Below w.heap.size w w') : DG w' base v g := by
  obtain ⟨u, vals, h1, h2, h3, h4⟩ := h
  exact ⟨u, vals, h1, h2, ownsRow_below h3 hb, ⟨fun j hj => ownsRow_below (h4.rows j hj) hb, h4.dis⟩⟩
theorem DG.gr {w : World} {base : Nat} {v : Value} {g : List (List Int)} (h : DG w base v g) (hn : g.length ≤ 1000000000) (hr : ∀ j, j < g.length → (row g j).length ≤ 1000000000) : Gr w v g := by
  obtain ⟨u, vals, rfl, h2, h3, h4⟩ := h
  exact ⟨u, rfl, Rws.of_owned vals h2 h3 hn fun j hj => Nums.of_owns (h4.rows j hj) rfl (hr j hj)⟩
theorem DG.shape {w : World} {base : Nat} {v : Value} {g : List (List Int)} (h : DG w base v g) : ∃ p c, v = .agg #[.slice p g.length c] := by
  obtain ⟨u, vals, rfl, h2, h3, h4⟩ := h
  rcases h3.2 with ⟨rfl, h0⟩ | ⟨b, c, _, rfl, _⟩
  · exact ⟨none, 0, by rw [h0]⟩
  · exact ⟨_, _, rfl⟩
theorem DG.base {w : World} {base base' : Nat} {v : Value} {g : List (List Int)} (h : DG w base v g) (hb : base' ≤ base) : DG w base' v g := by
  obtain ⟨u, vals, h1, h2, h3, h4⟩ := h
  exact ⟨u, vals, h1, h2, ownsRow_base h3 hb, ⟨fun j hj => ownsRow_base (h4.rows j hj) hb, h4.dis⟩⟩
theorem DG.setBox {w : World} {base b : Nat} {v x : Value} {g : List (List Int)} (h : DG w base v g) (hb : Box w b 29 x) (u : Value) : DG (w.setCell ⟨b, 0, none⟩ u) base v g := by
  obtain ⟨u0, vals, h1, h2, h3, h4⟩ := h
  exact ⟨u0, vals, h1, h2, ownsRow_setBox h3 hb (by decide) _, ⟨fun j hj => ownsRow_setBox (h4.rows j hj) hb (by decide) _, h4.dis⟩⟩

/-- The masks' rows. -/
def rowsOf (a : List Nat) : List (List Int) := a.map fun s => natInts (bitsOf s)
theorem rowsOf_length (a : List Nat) : (rowsOf a).length = a.length := by simp [rowsOf]
theorem row_rowsOf {a : List Nat} {j : Nat} (h : j < a.length) : row (rowsOf a) j = natInts (bitsOf a[j]) := by simp [row, rowsOf, h]
theorem rowsOf_indN {m : Nat} (hm : m ≤ 16) (E : Nat → Nat → Bool) : rowsOf (indN m E) = matG m E := by
  refine graph_ext (by rw [rowsOf_length, indN_length, matG_length]) fun j hj => ?_
  rw [rowsOf_length, indN_length] at hj
  rw [row_rowsOf (by rw [indN_length]; exact hj), ← indN_rows hm hj]
  have : (indN m E).getD j 0 = (indN m E)[j]'(by rw [indN_length]; exact hj) := by simp [indN_length, hj]
  rw [this]

theorem Dis.snoc {w W : World} {base k : Nat} {vals : List Value} {g : List (List Int)} {rv : Value} (h : Dis w base k vals g) (hl : vals.length = k)
    (hk : ∀ base size n v (xs : List Value), w.ownsRow base 2 size v n xs → W.ownsRow base 2 size v n xs)
    {B : Nat} (hB : base ≤ B) (hold : ∀ j, j < k → ∀ b, (vals.getD j undef).ownBlock = some b → b < B)
    (hn : w.ownsRow B 2 1 rv (row g k).length ((row g k).map (Value.int .i64))) : Dis W base (k + 1) (vals ++ [rv]) g := by
  have e1 : ∀ j, j < k → (vals ++ [rv]).getD j undef = vals.getD j undef := fun j hj => getD_append_left _ _ _ _ (by omega)
  have e2 : (vals ++ [rv]).getD k undef = rv := by rw [← hl]; exact getD_append_last _ _ _
  refine ⟨fun j hj => ?_, fun i j hi hj hne b hb => ?_⟩
  · by_cases e : j = k
    · subst e; rw [e2]; exact hk _ _ _ _ _ (ownsRow_base hn hB)
    · rw [e1 j (by omega)]; exact hk _ _ _ _ _ (h.rows j (by omega))
  · by_cases ei : i = k
    · subst ei
      rw [e2] at hb
      rw [e1 j (by omega)]
      intro hc
      have := hold j (by omega) b hc
      have := (hn.lt b hb).1
      omega
    · rw [e1 i (by omega)] at hb
      by_cases ej : j = k
      · subst ej
        rw [e2]
        intro hc
        have := hold i (by omega) b hb
        have := (hn.lt b hc).1
        omega
      · rw [e1 j (by omega)]
        exact h.dis i j (by omega) (by omega) hne b hb

set_option maxRecDepth 100000 in
set_option maxHeartbeats 4000000 in
theorem graph_any (x : Value) (a : List Nat) (ha : ∀ s ∈ a, s < 65536) (hal : a.length ≤ 1000) (w : World) (hx : Sl w 70 x a.length (a.map u32v)) (hT : Tab w) :
    Calls Tryd.prog 118 #[x] w fun e w' => ∃ u, e = .returned u ∧ DG w' w.heap.size u (rowsOf a) ∧ Below w.heap.size w w' := by
  obtain ⟨p, c, rfl, _⟩ := id hx
  have START := Lib.hid (two_boxes w)
  have HX := Lib.hid hx
  have HT := Lib.hid hT
  clear hx hT
  go_enter Tryd.func118, Tryd.ntmps118
  go_wp2
  go_loopw [9] (fun i wr => ∃ (k : Nat) (ov : Value) (vals : List Value), k ≤ a.length ∧ i = .int .i64 k ∧ Below w.heap.size w wr ∧ w.heap.size + 2 ≤ wr.heap.size ∧
      Box wr w.heap.size 29 (.slice none 0 0) ∧ Box wr (w.heap.size + 1) 29 ov ∧ wr.ownsRow (w.heap.size + 2) 33 1 ov k vals ∧ vals.length = k ∧ Dis wr (w.heap.size + 2) k vals (rowsOf a))
    (fun i _ => a.length - (intOf i).toNat)
  case atStart =>
    obtain ⟨W, rfl, h1, h2, h3, h4⟩ := START.out
    exact ⟨0, _, [], Nat.zero_le _, rfl, h1, by omega, h3, h4, World.ownsRow_nil _ _ _ _, rfl, ⟨fun j hj => by omega, fun i j hi => by omega⟩⟩
  case round =>
    obtain ⟨k, ov, vals, hk, rfl, hbel, hsz, hb2, hb3, hown, hvl, hrows⟩ := hrel
    have Hvl := Lib.hid hvl
    have Hrows := Lib.hid hrows
    have Hb2 := Lib.hid hb2
    have Hb3 := Lib.hid hb3
    have Hown := Lib.hid hown
    clear hvl hrows hb3 hb2 hown
    by_cases hlt : k < a.length
    · obtain ⟨ab, ao, rfl, hca⟩ := nets_cell (HX.out.below hbel) hlt
      have hs16 := ha _ (List.getElem_mem hlt)
      have HTr := Lib.hid (HT.out.keep hbel)
      have hrow := row_rowsOf hlt
      obtain ⟨c3, f3, _, _⟩ := Hb3.out
      obtain ⟨p9, c9, rfl⟩ : ∃ p c, ov = .slice p k c := by
        rcases Hown.out.2 with ⟨h1, h2⟩ | ⟨g1, cap, cur, h1, _⟩
        · exact ⟨none, 0, by rw [h1, h2]⟩
        · exact ⟨_, _, h1⟩
      have Hrow := Lib.hid hrow
      clear hrow
      go_upto_region 5 with fail
      go_region_law (first
        | (go_simp; go_at_call 90; refine (numbers_any _ a[k] rfl (by omega) _ (HTr.out.keep (below_dN (Below.refl _ _) 1))).mono ?_; rintro e w5 ⟨rv, rfl, hown5, hb5⟩; obtain ⟨rvp, rvc, hrv⟩ : ∃ p c, rv = .slice p (bitsOf a[k]).length c := (by rcases hown5.2 with ⟨rfl, h0⟩ | ⟨b, c, _, rfl, _⟩; exact ⟨none, 0, by rw [h0]⟩; exact ⟨_, _, rfl⟩); subst hrv; have hb5' : Below wr.heap.size wr w5 := ⟨hb5.os, hb5.tape, hb5.output, hb5.size, hb5.block⟩; have hown5' : w5.ownsRow wr.heap.size 2 1 (.slice rvp (bitsOf a[k]).length rvc) (bitsOf a[k]).length ((natInts (bitsOf a[k])).map (Value.int .i64)) := hown5; have hownc := ownsRow_below Hown.out hb5'; have hs5 := hb5'.size; have hbx5 := hb5'.at' c3; have hbx5a := fun o => (below_alloc w5 o).at' hbx5; clear hb5 hown5)
        | (refine step_app1s ty_rows rfl rfl rfl hownc rfl rfl (by omega) (by omega) ?_; intro b7 c8 w7 hown7 hg7; have hb7 := below_grown (Below.refl (w.heap.size + 2) w5) hownc hg7 (Nat.le_refl _) (by omega); have hob7 := hb7.at (by omega) hbx5; have hof7 := (hb7.frozen (p := ⟨w.heap.size + 1, 0, none⟩) (by show w.heap.size + 1 < _; omega)).trans ((hb5'.frozen (p := ⟨w.heap.size + 1, 0, none⟩) (by show w.heap.size + 1 < _; omega)).trans f3)))
      all_goals go_wp2
      all_goals go_roundw
      all_goals first
        | (simp [intOf]; omega)
        | skip
      all_goals
        obtain ⟨W, rfl, r1, r2, r3, r4, r5, r6⟩ := box_step hbel hsz hb5' Hb2.out Hb3.out Hown.out hown7 hg7
        refine ⟨k + 1, _, _, by omega, by go_num, r1, r2, r3, r4, r5, by simp [Hvl.out], ?_⟩
        have hd : Dis w5 (w.heap.size + 2) k vals (rowsOf a) := ⟨fun j hj => ownsRow_below (Hrows.out.rows j hj) hb5', Hrows.out.dis⟩
        refine hd.snoc Hvl.out r6 (B := wr.heap.size) (by omega) (fun j hj b hb => ((Hrows.out.rows j hj).lt b hb).2) ?_
        rw [Hrow.out, natInts_length]
        exact hown5'
    · obtain rfl : k = a.length := by omega
      obtain ⟨k2c, k2f, _⟩ := Hb2.out
      obtain ⟨k3c, k3f, _⟩ := Hb3.out
      obtain ⟨p9, c9, rfl⟩ : ∃ p c, ov = .slice p a.length c := by
        rcases Hown.out.2 with ⟨h1, h2⟩ | ⟨g1, cap, cur, h1, _⟩
        · exact ⟨none, 0, by rw [h1, h2]⟩
        · exact ⟨_, _, h1⟩
      go_wp2
      refine bodyPost_ret (v := .agg #[.slice p9 a.length c9]) (by simp [results, Tryd.results118, go_sem, k2c]) rfl ⟨_, rfl, ?_, ?_⟩
      · have : DG wr (w.heap.size + 2) (.agg #[.slice p9 a.length c9]) (rowsOf a) := ⟨_, vals, rfl, by rw [rowsOf_length]; exact Hvl.out, by rw [rowsOf_length]; exact Hown.out, by rw [rowsOf_length]; exact Hrows.out⟩
        exact (this.setBox Hb2.out _).base (by omega)
      · exact hbel.setCell (by show w.heap.size ≤ w.heap.size; omega) _

end Go.Proofs.YtkppbmfliejnmaaDoor

/- Walk: masks as rows of numbers. -/
namespace Go.Proofs.YtkppbmfliejnmaaDoor
open Go.RowKit

theorem ty_rows64 : SlTy Tryd.prog 27 33 (.slice none 0 0) 1 24 := ⟨Tryd.underlying27, by kernel_rfl, rfl, by decide, by decide⟩

set_option maxRecDepth 100000 in
set_option maxHeartbeats 4000000 in
theorem results_any (x : Value) (a : List Nat) (ha : ∀ s ∈ a, s < 4294967296) (hal : a.length ≤ 100000) (w : World) (hx : Sl w 70 x a.length (a.map u32v)) (hT : Tab w) :
    Calls Tryd.prog 113 #[x] w fun e w' => ∃ u, e = .returned u ∧ DG w' w.heap.size (.agg #[u]) (rowsOf a) ∧ Below w.heap.size w w' := by
  obtain ⟨p, c, rfl, _⟩ := id hx
  have HX := Lib.hid hx
  have HT := Lib.hid hT
  clear hx hT
  go_enter Tryd.func113, Tryd.ntmps113
  go_wp2
  go_loopw [3, 9] (fun ov i wr => ∃ (k : Nat) (vals : List Value), k ≤ a.length ∧ i = .int .i64 k ∧ Below w.heap.size w wr ∧ wr.ownsRow w.heap.size 33 1 ov k vals ∧ vals.length = k ∧ Dis wr w.heap.size k vals (rowsOf a))
    (fun _ i _ => a.length - (intOf i).toNat)
  case atStart => exact ⟨0, [], Nat.zero_le _, rfl, below_alloc _ _, ownsRow_empty _ _ _, rfl, ⟨fun j hj => by omega, fun i j hi => by omega⟩⟩
  case round =>
    obtain ⟨k, vals, hk, rfl, hbel, hown, hvl, hrows⟩ := hrel
    have Hvl := Lib.hid hvl
    have Hrows := Lib.hid hrows
    have Hown := Lib.hid hown
    clear hvl hrows
    have hsz := hbel.size
    by_cases hlt : k < a.length
    · obtain ⟨ab, ao, rfl, hca⟩ := nets_cell (HX.out.below hbel) hlt
      have hs16 := ha _ (List.getElem_mem hlt)
      have HTr := Lib.hid (HT.out.keep hbel)
      have Hrow := Lib.hid (row_rowsOf hlt)
      clear hown
      go_wp2_with (first
        | (go_at_call 90; refine (numbers_any _ a[k] rfl hs16 _ HTr.out).mono ?_; rintro e w5 ⟨rv, rfl, hown5, hb5⟩; obtain ⟨rvp, rvc, hrv⟩ : ∃ p c, rv = .slice p (bitsOf a[k]).length c := (by rcases hown5.2 with ⟨rfl, h0⟩ | ⟨b, c, _, rfl, _⟩; exact ⟨none, 0, by rw [h0]⟩; exact ⟨_, _, rfl⟩); subst hrv; have hownc := ownsRow_below Hown.out hb5; have hs5 := hb5.size)
        | (at_builtin; refine wpList_app1s ty_rows64 rfl rfl rfl hownc rfl rfl (by omega) (by omega) ?_; intro b7 c8 w7 hown7 hg7 _))
      have hd : Dis w5 w.heap.size k vals (rowsOf a) := ⟨fun j hj => ownsRow_below (Hrows.out.rows j hj) hb5, Hrows.out.dis⟩
      have Hd := Lib.hid hd
      clear hd
      go_roundw
      case rel =>
        refine ⟨k + 1, _, by omega, by go_num, below_grown (hbel.trans (hb5.mono hbel.size)) hownc hg7 (Nat.le_refl _) (by omega), hown7, by simp [Hvl.out], ?_⟩
        refine Hd.out.snoc Hvl.out (fun base size n v xs h => ownsRow_other h hownc hg7 (by decide)) (B := wr.heap.size) (by omega) (fun j hj b hb => ((Hrows.out.rows j hj).lt b hb).2) ?_
        rw [Hrow.out, natInts_length]
        exact hown5
      case measure => simp [intOf]; omega
    · obtain rfl : k = a.length := by omega
      have HO := Lib.hid hown
      clear hown
      go_wp2
      go_ret
      exact ⟨_, rfl, ⟨_, vals, rfl, by rw [rowsOf_length]; exact Hvl.out, by rw [rowsOf_length]; exact HO.out, by rw [rowsOf_length]; exact Hrows.out⟩, hbel⟩

end Go.Proofs.YtkppbmfliejnmaaDoor

/- Walks: linking two vertices in a graph that is the callee's own. -/
namespace Go.Proofs.YtkppbmfliejnmaaDoor
open Go.RowKit

theorem get_getD {α : Type} (l : List α) (k : Nat) (d : α) (h : k < l.length) : l[k]? = some (l.getD k d) := by simp [h]

structure LK (w wr : World) (base ob c : Nat) (g : List (List Int)) (vals : List Value) : Prop where
  len : vals.length = g.length
  own : wr.ownsRow base 33 1 (.slice (some ⟨ob, 0, none⟩) g.length c) g.length vals
  rows : ∀ j, j < g.length → Nums wr 2 .i64 (vals.getD j undef) (row g j)
  box : Box wr w.heap.size 29 (.slice (some ⟨ob, 0, none⟩) g.length c)
  res : Box wr (w.heap.size + 1) 29 (.slice none 0 0)
  grown : w.grownBy wr (some ob)
  lt : ob < w.heap.size

theorem LK.step {w wr w2 : World} {base ob c : Nat} {g : List (List Int)} {vals : List Value} (h : LK w wr base ob c g vals) (hb : Below wr.heap.size wr w2) {rv : Value} {s : List Int} (hn : Nums w2 2 .i64 rv s) {u : Nat} (hu : u < g.length) :
    LK w (w2.setCell ⟨ob, u, none⟩ rv) base ob c (g.set u s) (vals.set u rv) := by
  have ho := ownsRow_below h.own hb
  obtain ⟨ho2, hg2⟩ := ho.stored u rv
  have hl := h.lt
  refine ⟨by simp [h.len], by rw [List.length_set]; exact ho2, fun j hj => ?_, ?_, ?_, grown_trans (grown_trans h.grown (grown_of_below hb _)) hg2, hl⟩
  · rw [List.length_set] at hj
    rw [row_set _ _ _ _ hu]
    by_cases e : j = u
    · subst e
      rw [if_pos rfl]
      have : (vals.set j rv).getD j undef = rv := by simp [h.len, hj]
      rw [this]
      exact hn.other ho hg2 (by decide)
    · rw [if_neg e]
      have : (vals.set u rv).getD j undef = vals.getD j undef := by simp [show ¬ u = j from fun q => e q.symm]
      rw [this]
      exact ((h.rows j hj).below hb).other ho hg2 (by decide)
  · rw [List.length_set]
    exact (h.box.keep hb).setOther (by show w.heap.size ≠ ob; omega) _
  · exact (h.res.keep hb).setOther (by show w.heap.size + 1 ≠ ob; omega) _

set_option maxRecDepth 100000 in
set_option maxHeartbeats 4000000 in
theorem l1Link_any (p : Option Addr) (c : Nat) (g : List (List Int)) (y z : Int) (u k base : Nat) (hy : y = u) (hz : z = k) (hu : u < g.length) (hk : k < g.length) (hr : ∀ j, j < g.length → (row g j).length ≤ 1000) (w : World)
    (hs : SG w base (.agg #[.slice p g.length c]) g) :
    Calls Tryd.prog 154 #[.agg #[.slice p g.length c], .int .i64 y, .int .i64 z] w fun e w' => e = .returned (.agg #[.slice p g.length c]) ∧ SG w' base (.agg #[.slice p g.length c]) (linkL g u k) ∧ w.grownBy w' (Value.slice p g.length c).ownBlock := by
  subst hy; subst hz
  obtain ⟨_, vals, h1, hl, ho, hrows⟩ := hs
  cases h1
  obtain ⟨ob, rfl⟩ : ∃ ob, p = some ⟨ob, 0, none⟩ := by
    rcases ho.2 with ⟨_, h0⟩ | ⟨b, cc, _, h1, _⟩
    · omega
    · simp only [Value.slice.injEq] at h1
      exact ⟨b, h1.1⟩
  have hlt := (ho.lt ob rfl).2
  have hbb := below_alloc2 w (.cells #[.slice (some ⟨ob, 0, none⟩) g.length c] 29) (.cells #[.slice none 0 0] 29)
  have START : Hid (LK w ((w.alloc (.cells #[.slice (some ⟨ob, 0, none⟩) g.length c] 29)).alloc (.cells #[.slice none 0 0] 29)) base ob c g vals) := Lib.hid
    ⟨hl, ownsRow_below ho hbb, fun j hj => (hrows j hj).below hbb, (Box.new _ _ _).alloc _, by have := Box.new (w.alloc (.cells #[.slice (some ⟨ob, 0, none⟩) g.length c] 29)) (.slice none 0 0) 29; rw [size_alloc] at this; exact this, grown_of_below hbb _, hlt⟩
  have HR := Lib.hid hr
  clear hl ho hrows hbb hr
  go_enter Tryd.func154, Tryd.ntmps154
  go_upto_region 1 with fail
  generalize hW : (w.alloc (.cells #[.slice (some ⟨ob, 0, none⟩) g.length c] 29)).alloc (.cells #[.slice none 0 0] 29) = W at *
  clear hW
  obtain ⟨bc, bf, _, _⟩ := START.out.box
  obtain ⟨rp, rc, hrs, _⟩ := (START.out.rows u hu).shape
  have hcu := START.out.own.cellAt u (by omega)
  have hv0 := get_getD vals u undef (by rw [START.out.len]; exact hu)
  rw [hv0, hrs] at hcu
  have hnu := Lib.hid (START.out.rows u hu)
  rw [hrs] at hnu
  have hru := HR.out u hu
  clear hv0 hrs
  go_cut [] (fun wx => ∃ rv, LK w wx base ob c (g.set u (intoL (row g u) k)) (vals.set u rv))
  case first =>
    go_region_law (first | (go_simp; go_at_call 210; refine (l1Into_any _ (row g u) k (by omega) _ (hnu.out.below (below_dN (Below.refl _ _) 1))).mono ?_; rintro e w2 ⟨rv, rfl, hn2, hb2⟩; obtain ⟨rvp, rvc, rfl, _⟩ := hn2.shape; have hb2' : Below W.heap.size W w2 := (below_dN (Below.refl _ _) 1).trans hb2; have hf2 := (ownsRow_below START.out.own hb2').frozenAt u; have hc2 := hb2'.at' hcu; have hbc2 := hb2'.at' bc))
    all_goals go_wp2
    all_goals go_meet
    all_goals exact ⟨_, START.out.step hb2' hn2 hu⟩
  case rest =>
    obtain ⟨rv0, hlk⟩ := hcut
    have HL := Lib.hid hlk
    have hk' : k < (g.set u (intoL (row g u) k)).length := by simpa using hk
    obtain ⟨bc, bf, _, _⟩ := hlk.box
    obtain ⟨rp, rc, hrs, _⟩ := (hlk.rows k hk').shape
    have hcu := hlk.own.cellAt k (by omega)
    have hv0 := get_getD (vals.set u rv0) k undef (by rw [hlk.len]; exact hk')
    rw [hv0, hrs] at hcu
    have hnu := Lib.hid (hlk.rows k hk')
    rw [hrs] at hnu
    have hl1 : (g.set u (intoL (row g u) k)).length = g.length := by simp
    have hru : (row (g.set u (intoL (row g u) k)) k).length ≤ 2000 := by
      rw [row_set _ _ _ _ hu]
      split
      · have := intoL_length (row g u) k; have := HR.out u hu; omega
      · have := HR.out k hk; omega
    rw [hl1] at bc
    clear hv0 hrs hlk
    generalize hr1 : row (g.set u (intoL (row g u) k)) k = r1 at hru hcu hnu
    go_upto_region 2 with fail
    go_cut [] (fun wx => ∃ rv, LK w wx base ob c (linkL g u k) ((vals.set u rv0).set k rv))
    case first =>
      go_region_law (first | (go_simp; go_at_call 210; refine (l1Into_any _ r1 u (by omega) _ (hnu.out.below (below_dN (Below.refl _ _) 1))).mono ?_; rintro e w2 ⟨rv, rfl, hn2, hb2⟩; obtain ⟨rvp, rvc, rfl, _⟩ := hn2.shape; have hb2' : Below wc.heap.size wc w2 := (below_dN (Below.refl _ _) 1).trans hb2; have hf2 := (ownsRow_below HL.out.own hb2').frozenAt k; have hc2 := hb2'.at' hcu; have hbc2 := hb2'.at' bc))
      all_goals go_wp2
      all_goals go_meet
      all_goals exact ⟨_, by rw [show linkL g u k = (g.set u (intoL (row g u) k)).set k (intoL r1 u) from by unfold linkL; rw [hr1]]; exact HL.out.step hb2' hn2 hk'⟩
    case rest =>
      obtain ⟨rv1, hlk⟩ := hcut
      have HL2 := Lib.hid hlk
      obtain ⟨bc, bf, _, _⟩ := hlk.box
      obtain ⟨k2c, k2f, _⟩ := hlk.res
      rw [linkL_length] at bc
      clear hlk
      go_wp2
      refine bodyPost_ret (v := .agg #[.slice (some ⟨ob, 0, none⟩) g.length c]) (by simp [results, Tryd.results154, go_sem, k2c]) rfl ⟨rfl, ⟨_, _, rfl, HL2.out.len, ?_, fun j hj => ?_⟩, ?_⟩
      · exact ownsRow_setBox (by have := HL2.out.own; rw [linkL_length] at this ⊢; exact this) HL2.out.res (by decide) _
      · exact (HL2.out.rows j hj).setBox HL2.out.res (by decide) _
      · have hlt' := HL2.out.lt
        refine ⟨HL2.out.grown.os, HL2.out.grown.tape, HL2.out.grown.output, by have := HL2.out.grown.size; simpa [World.setCell] using this, fun b hb hne => ?_⟩
        rw [Below.heap_setCell _ _ _ _ (by show b ≠ w.heap.size + 1; omega)]
        exact HL2.out.grown.block b hb hne

end Go.Proofs.YtkppbmfliejnmaaDoor
