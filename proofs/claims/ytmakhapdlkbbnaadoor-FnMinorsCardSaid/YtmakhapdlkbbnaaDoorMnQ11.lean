/- Walk: a graph made of masks. -/
import Derived.Test.YtmakhapdlkbbnaaDoorMnQ10
import Derived.Test.YtmakhapdlkbbnaaDoorMnQ8
import Derived.Test.YtmakhapdlkbbnaaDoorMnQ9
import Derived.Test.YtmakhapdlkbbnaaDoorMnQ4
namespace Go.Proofs.YtmakhapdlkbbnaaDoor
open Go.RowKit

/-- The first k rows are the callee's own, each in a block of its own. -/
structure Dis (w : World) (base k : Nat) (vals : List Value) (g : List (List Int)) : Prop where
  rows : ∀ j, j < k → w.ownsRow base 2 1 (vals.getD j undef) (row g j).length ((row g j).map (Value.int .i64))
  dis : ∀ i j, i < k → j < k → i ≠ j → ∀ b, (vals.getD i undef).ownBlock = some b → (vals.getD j undef).ownBlock ≠ some b
def DG (w : World) (base : Nat) (v : Value) (g : List (List Int)) : Prop :=
  ∃ u vals, v = .agg #[u] ∧ vals.length = g.length ∧ w.ownsRow base 36 1 u g.length vals ∧ Dis w base g.length vals g

theorem DG.below {w w' : World} {base : Nat} {v : Value} {g : List (List Int)} (h : DG w base v g) (hb : Below w.heap.size w w') : DG w' base v g := by
  obtain ⟨u, vals, h1, h2, h3, h4⟩ := h
  exact ⟨u, vals, h1, h2, ownsRow_below h3 hb, ⟨fun j hj => ownsRow_below (h4.rows j hj) hb, h4.dis⟩⟩
theorem DG.gr {w : World} {base : Nat} {v : Value} {g : List (List Int)} (h : DG w base v g) (hn : g.length ≤ 1000000000) (hr : ∀ j, j < g.length → (row g j).length ≤ 1000000000) : Gr w v g := by
  obtain ⟨u, vals, rfl, h2, h3, h4⟩ := h
  exact ⟨u, rfl, Rws.of_owned vals h2 h3 hn fun j hj => Nums.of_owns (h4.rows j hj) rfl (hr j hj)⟩
theorem DG.shape {w : World} {base : Nat} {v : Value} {g : List (List Int)} (h : DG w base v g) : ∃ p c, v = .agg #[.slice p g.length c] := by
  obtain ⟨u, vals, rfl, h2, h3, h4⟩ := h
  rcases h3.2 with ⟨rfl, h0⟩ | ⟨b, c, _, rfl, _⟩
  · exact ⟨none, 0, by rw [h0]⟩
  · exact ⟨_, _, rfl⟩
theorem DG.base {w : World} {base base' : Nat} {v : Value} {g : List (List Int)} (h : DG w base v g) (hb : base' ≤ base) : DG w base' v g := by
  obtain ⟨u, vals, h1, h2, h3, h4⟩ := h
  exact ⟨u, vals, h1, h2, ownsRow_base h3 hb, ⟨fun j hj => ownsRow_base (h4.rows j hj) hb, h4.dis⟩⟩
theorem DG.setBox {w : World} {base b : Nat} {v x : Value} {g : List (List Int)} (h : DG w base v g) (hb : Box w b 29 x) (u : Value) : DG (w.setCell ⟨b, 0, none⟩ u) base v g := by
  obtain ⟨u0, vals, h1, h2, h3, h4⟩ := h
  exact ⟨u0, vals, h1, h2, ownsRow_setBox h3 hb (by decide) _, ⟨fun j hj => ownsRow_setBox (h4.rows j hj) hb (by decide) _, h4.dis⟩⟩

/-- The masks' rows. -/
def rowsOf (a : List Nat) : List (List Int) := a.map fun s => natInts (bitsOf s)
theorem rowsOf_length (a : List Nat) : (rowsOf a).length = a.length := by simp [rowsOf]
theorem row_rowsOf {a : List Nat} {j : Nat} (h : j < a.length) : row (rowsOf a) j = natInts (bitsOf a[j]) := by simp [row, rowsOf, h]
theorem rowsOf_indN {m : Nat} (hm : m ≤ 16) (E : Nat → Nat → Bool) : rowsOf (indN m E) = matG m E := by
  refine graph_ext (by rw [rowsOf_length, indN_length, matG_length]) fun j hj => ?_
  rw [rowsOf_length, indN_length] at hj
  rw [row_rowsOf (by rw [indN_length]; exact hj), ← indN_rows hm hj]
  have : (indN m E).getD j 0 = (indN m E)[j]'(by rw [indN_length]; exact hj) := by simp [indN_length, hj]
  rw [this]

theorem Dis.snoc {w W : World} {base k : Nat} {vals : List Value} {g : List (List Int)} {rv : Value} (h : Dis w base k vals g) (hl : vals.length = k)
    (hk : ∀ base size n v (xs : List Value), w.ownsRow base 2 size v n xs → W.ownsRow base 2 size v n xs)
    {B : Nat} (hB : base ≤ B) (hold : ∀ j, j < k → ∀ b, (vals.getD j undef).ownBlock = some b → b < B)
    (hn : w.ownsRow B 2 1 rv (row g k).length ((row g k).map (Value.int .i64))) : Dis W base (k + 1) (vals ++ [rv]) g := by
  have e1 : ∀ j, j < k → (vals ++ [rv]).getD j undef = vals.getD j undef := fun j hj => getD_append_left _ _ _ _ (by omega)
  have e2 : (vals ++ [rv]).getD k undef = rv := by rw [← hl]; exact getD_append_last _ _ _
  refine ⟨fun j hj => ?_, fun i j hi hj hne b hb => ?_⟩
  · by_cases e : j = k
    · subst e; rw [e2]; exact hk _ _ _ _ _ (ownsRow_base hn hB)
    · rw [e1 j (by omega)]; exact hk _ _ _ _ _ (h.rows j (by omega))
  · by_cases ei : i = k
    · subst ei
      rw [e2] at hb
      rw [e1 j (by omega)]
      intro hc
      have := hold j (by omega) b hc
      have := (hn.lt b hb).1
      omega
    · rw [e1 i (by omega)] at hb
      by_cases ej : j = k
      · subst ej
        rw [e2]
        intro hc
        have := hold i (by omega) b hb
        have := (hn.lt b hc).1
        omega
      · rw [e1 j (by omega)]
        exact h.dis i j (by omega) (by omega) hne b hb

set_option maxRecDepth 100000 in
set_option maxHeartbeats 4000000 in
theorem graph_any (x : Value) (a : List Nat) (ha : ∀ s ∈ a, s < 65536) (hal : a.length ≤ 1000) (w : World) (hx : Sl w 79 x a.length (a.map u32v)) (hT : Tab w) :
    Calls Tryd.prog 83 #[x] w fun e w' => ∃ u, e = .returned u ∧ DG w' w.heap.size u (rowsOf a) ∧ Below w.heap.size w w' := by
  obtain ⟨p, c, rfl, _⟩ := id hx
  have START := Lib.hid (two_boxes w)
  have HX := Lib.hid hx
  have HT := Lib.hid hT
  clear hx hT
  go_enter Tryd.func83, Tryd.ntmps83
  go_wp2
  go_loopw [9] (fun i wr => ∃ (k : Nat) (ov : Value) (vals : List Value), k ≤ a.length ∧ i = .int .i64 k ∧ Below w.heap.size w wr ∧ w.heap.size + 2 ≤ wr.heap.size ∧
      Box wr w.heap.size 29 (.slice none 0 0) ∧ Box wr (w.heap.size + 1) 29 ov ∧ wr.ownsRow (w.heap.size + 2) 36 1 ov k vals ∧ vals.length = k ∧ Dis wr (w.heap.size + 2) k vals (rowsOf a))
    (fun i _ => a.length - (intOf i).toNat)
  case atStart =>
    obtain ⟨W, rfl, h1, h2, h3, h4⟩ := START.out
    exact ⟨0, _, [], Nat.zero_le _, rfl, h1, by omega, h3, h4, World.ownsRow_nil _ _ _ _, rfl, ⟨fun j hj => by omega, fun i j hi => by omega⟩⟩
  case round =>
    obtain ⟨k, ov, vals, hk, rfl, hbel, hsz, hb2, hb3, hown, hvl, hrows⟩ := hrel
    have Hvl := Lib.hid hvl
    have Hrows := Lib.hid hrows
    have Hb2 := Lib.hid hb2
    have Hb3 := Lib.hid hb3
    have Hown := Lib.hid hown
    clear hvl hrows hb3 hb2 hown
    by_cases hlt : k < a.length
    · obtain ⟨ab, ao, rfl, hca⟩ := nets_cell (HX.out.below hbel) hlt
      have hs16 := ha _ (List.getElem_mem hlt)
      have HTr := Lib.hid (HT.out.keep hbel)
      have hrow := row_rowsOf hlt
      obtain ⟨c3, f3, _, _⟩ := Hb3.out
      obtain ⟨p9, c9, rfl⟩ : ∃ p c, ov = .slice p k c := by
        rcases Hown.out.2 with ⟨h1, h2⟩ | ⟨g1, cap, cur, h1, _⟩
        · exact ⟨none, 0, by rw [h1, h2]⟩
        · exact ⟨_, _, h1⟩
      have Hrow := Lib.hid hrow
      clear hrow
      go_upto_region 5 with fail
      go_region_law (first
        | (go_simp; go_at_call 103; refine (numbers_any _ a[k] rfl (by omega) _ (HTr.out.keep (below_dN (Below.refl _ _) 1))).mono ?_; rintro e w5 ⟨rv, rfl, hown5, hb5⟩; obtain ⟨rvp, rvc, hrv⟩ : ∃ p c, rv = .slice p (bitsOf a[k]).length c := (by rcases hown5.2 with ⟨rfl, h0⟩ | ⟨b, c, _, rfl, _⟩; exact ⟨none, 0, by rw [h0]⟩; exact ⟨_, _, rfl⟩); subst hrv; have hb5' : Below wr.heap.size wr w5 := ⟨hb5.os, hb5.tape, hb5.output, hb5.size, hb5.block⟩; have hown5' : w5.ownsRow wr.heap.size 2 1 (.slice rvp (bitsOf a[k]).length rvc) (bitsOf a[k]).length ((natInts (bitsOf a[k])).map (Value.int .i64)) := hown5; have hownc := ownsRow_below Hown.out hb5'; have hs5 := hb5'.size; have hbx5 := hb5'.at' c3; have hbx5a := fun o => (below_alloc w5 o).at' hbx5; clear hb5 hown5)
        | (refine step_app1s ty_rows rfl rfl rfl hownc rfl rfl (by omega) (by omega) ?_; intro b7 c8 w7 hown7 hg7; have hb7 := below_grown (Below.refl (w.heap.size + 2) w5) hownc hg7 (Nat.le_refl _) (by omega); have hob7 := hb7.at (by omega) hbx5; have hof7 := (hb7.frozen (p := ⟨w.heap.size + 1, 0, none⟩) (by show w.heap.size + 1 < _; omega)).trans ((hb5'.frozen (p := ⟨w.heap.size + 1, 0, none⟩) (by show w.heap.size + 1 < _; omega)).trans f3)))
      all_goals go_wp2
      all_goals go_roundw
      all_goals first
        | (simp [intOf]; omega)
        | skip
      all_goals
        obtain ⟨W, rfl, r1, r2, r3, r4, r5, r6⟩ := box_step hbel hsz hb5' Hb2.out Hb3.out Hown.out hown7 hg7
        refine ⟨k + 1, _, _, by omega, by go_num, r1, r2, r3, r4, r5, by simp [Hvl.out], ?_⟩
        have hd : Dis w5 (w.heap.size + 2) k vals (rowsOf a) := ⟨fun j hj => ownsRow_below (Hrows.out.rows j hj) hb5', Hrows.out.dis⟩
        refine hd.snoc Hvl.out r6 (B := wr.heap.size) (by omega) (fun j hj b hb => ((Hrows.out.rows j hj).lt b hb).2) ?_
        rw [Hrow.out, natInts_length]
        exact hown5'
    · obtain rfl : k = a.length := by omega
      obtain ⟨k2c, k2f, _⟩ := Hb2.out
      obtain ⟨k3c, k3f, _⟩ := Hb3.out
      obtain ⟨p9, c9, rfl⟩ : ∃ p c, ov = .slice p a.length c := by
        rcases Hown.out.2 with ⟨h1, h2⟩ | ⟨g1, cap, cur, h1, _⟩
        · exact ⟨none, 0, by rw [h1, h2]⟩
        · exact ⟨_, _, h1⟩
      go_wp2
      refine bodyPost_ret (v := .agg #[.slice p9 a.length c9]) (by simp [results, Tryd.results83, go_sem, k2c]) rfl ⟨_, rfl, ?_, ?_⟩
      · have : DG wr (w.heap.size + 2) (.agg #[.slice p9 a.length c9]) (rowsOf a) := ⟨_, vals, rfl, by rw [rowsOf_length]; exact Hvl.out, by rw [rowsOf_length]; exact Hown.out, by rw [rowsOf_length]; exact Hrows.out⟩
        exact (this.setBox Hb2.out _).base (by omega)
      · exact hbel.setCell (by show w.heap.size ≤ w.heap.size; omega) _

end Go.Proofs.YtmakhapdlkbbnaaDoor

/- Walk: masks as rows of numbers. -/
namespace Go.Proofs.YtmakhapdlkbbnaaDoor
open Go.RowKit

theorem ty_rows64 : SlTy Tryd.prog 27 36 (.slice none 0 0) 1 24 := ⟨Tryd.underlying27, by kernel_rfl, rfl, by decide, by decide⟩

set_option maxRecDepth 100000 in
set_option maxHeartbeats 4000000 in
theorem results_any (x : Value) (a : List Nat) (ha : ∀ s ∈ a, s < 4294967296) (hal : a.length ≤ 100000) (w : World) (hx : Sl w 79 x a.length (a.map u32v)) (hT : Tab w) :
    Calls Tryd.prog 96 #[x] w fun e w' => ∃ u, e = .returned u ∧ DG w' w.heap.size (.agg #[u]) (rowsOf a) ∧ Below w.heap.size w w' := by
  obtain ⟨p, c, rfl, _⟩ := id hx
  have HX := Lib.hid hx
  have HT := Lib.hid hT
  clear hx hT
  go_enter Tryd.func96, Tryd.ntmps96
  go_wp2
  go_loopw [3, 9] (fun ov i wr => ∃ (k : Nat) (vals : List Value), k ≤ a.length ∧ i = .int .i64 k ∧ Below w.heap.size w wr ∧ wr.ownsRow w.heap.size 36 1 ov k vals ∧ vals.length = k ∧ Dis wr w.heap.size k vals (rowsOf a))
    (fun _ i _ => a.length - (intOf i).toNat)
  case atStart => exact ⟨0, [], Nat.zero_le _, rfl, below_alloc _ _, ownsRow_empty _ _ _, rfl, ⟨fun j hj => by omega, fun i j hi => by omega⟩⟩
  case round =>
    obtain ⟨k, vals, hk, rfl, hbel, hown, hvl, hrows⟩ := hrel
    have Hvl := Lib.hid hvl
    have Hrows := Lib.hid hrows
    have Hown := Lib.hid hown
    clear hvl hrows
    have hsz := hbel.size
    by_cases hlt : k < a.length
    · obtain ⟨ab, ao, rfl, hca⟩ := nets_cell (HX.out.below hbel) hlt
      have hs16 := ha _ (List.getElem_mem hlt)
      have HTr := Lib.hid (HT.out.keep hbel)
      have Hrow := Lib.hid (row_rowsOf hlt)
      clear hown
      go_wp2_with (first
        | (go_at_call 103; refine (numbers_any _ a[k] rfl hs16 _ HTr.out).mono ?_; rintro e w5 ⟨rv, rfl, hown5, hb5⟩; obtain ⟨rvp, rvc, hrv⟩ : ∃ p c, rv = .slice p (bitsOf a[k]).length c := (by rcases hown5.2 with ⟨rfl, h0⟩ | ⟨b, c, _, rfl, _⟩; exact ⟨none, 0, by rw [h0]⟩; exact ⟨_, _, rfl⟩); subst hrv; have hownc := ownsRow_below Hown.out hb5; have hs5 := hb5.size)
        | (at_builtin; refine wpList_app1s ty_rows64 rfl rfl rfl hownc rfl rfl (by omega) (by omega) ?_; intro b7 c8 w7 hown7 hg7 _))
      have hd : Dis w5 w.heap.size k vals (rowsOf a) := ⟨fun j hj => ownsRow_below (Hrows.out.rows j hj) hb5, Hrows.out.dis⟩
      have Hd := Lib.hid hd
      clear hd
      go_roundw
      case rel =>
        refine ⟨k + 1, _, by omega, by go_num, below_grown (hbel.trans (hb5.mono hbel.size)) hownc hg7 (Nat.le_refl _) (by omega), hown7, by simp [Hvl.out], ?_⟩
        refine Hd.out.snoc Hvl.out (fun base size n v xs h => ownsRow_other h hownc hg7 (by decide)) (B := wr.heap.size) (by omega) (fun j hj b hb => ((Hrows.out.rows j hj).lt b hb).2) ?_
        rw [Hrow.out, natInts_length]
        exact hown5
      case measure => simp [intOf]; omega
    · obtain rfl : k = a.length := by omega
      have HO := Lib.hid hown
      clear hown
      go_wp2
      go_ret
      exact ⟨_, rfl, ⟨_, vals, rfl, by rw [rowsOf_length]; exact Hvl.out, by rw [rowsOf_length]; exact HO.out, by rw [rowsOf_length]; exact Hrows.out⟩, hbel⟩

end Go.Proofs.YtmakhapdlkbbnaaDoor

/- Walks: the program's tests of a set, and of a connected one; the masks of several sets. -/
namespace Go.Proofs.YtmakhapdlkbbnaaDoor
open Go.RowKit

set_option maxRecDepth 100000 in
set_option maxHeartbeats 1000000 in
theorem implSetOk_any (v lv : Value) (g : List (List Int)) (s : List Int) (hgl : g.length ≤ 1000000000) (w : World) (hg : Gr w v g) (hn : Nums w 2 .i64 lv s) :
    Calls Tryd.prog 93 #[v, lv] w fun e w' => e = .returned (.bool (dec (GOk g ∧ SetIn g.length s))) ∧ Below w.heap.size w w' := by
  have hg0 := hg
  obtain ⟨u, rfl, hr⟩ := hg
  obtain ⟨p, c, rfl, _⟩ := hr.shape
  have hbA := Lib.hid (below_alloc w (.cells #[.slice p g.length c] 29))
  have HG := Lib.hid (hg0.below hbA.out)
  have HN := Lib.hid (hn.below hbA.out)
  have BX := Lib.hid (Box.new w (.slice p g.length c) 29)
  clear hr hg0 hn
  by_cases hok : GOk g
  · have hd := Lib.hid (dec_true hok)
    have HD : Hid (dec (SetIn g.length s) = dec (GOk g ∧ SetIn g.length s)) := Lib.hid (dec_congr ⟨fun h => ⟨hok, h⟩, fun h => h.2⟩)
    clear hok
    go_enter Tryd.func93, Tryd.ntmps93
    go_wp2_with (first
      | (go_at_call 80; refine (implGraphOk_any _ g _ HG.out).mono ?_; rintro e w2 ⟨he, hb2⟩; rw [hd.out] at he; subst he; have hbx := (BX.out.keep hb2).cell)
      | (go_at_call 173; refine (increasing_any _ s g.length (by omega) (by omega) _ (HN.out.below hb2)).mono ?_; rintro e w3 ⟨he3, hw3⟩; rw [HD.out] at he3; subst he3; subst hw3))
    go_ret
    exact ⟨rfl, hbA.out.trans (hb2.mono hbA.out.size)⟩
  · have hd := Lib.hid (dec_false hok)
    have HD := Lib.hid (dec_false (show ¬ (GOk g ∧ SetIn g.length s) from fun h => hok h.1))
    clear hok
    go_enter Tryd.func93, Tryd.ntmps93
    go_wp2_with (go_at_call 80; refine (implGraphOk_any _ g _ HG.out).mono ?_; rintro e w2 ⟨he, hb2⟩; rw [hd.out] at he; subst he)
    go_ret
    exact ⟨by rw [HD.out]; rfl, hbA.out.trans (hb2.mono hbA.out.size)⟩

set_option maxRecDepth 100000 in
set_option maxHeartbeats 1000000 in
theorem connected_any (x : Value) (z : Int) (n : Nat) (E : Nat → Nat → Bool) (W : Nat) (hz : z = W) (hW : W < 65536) (hWn : ∀ i, W.testBit i = true → i < n) (w : World) (hx : NE w x n E) (hT : Tab w) :
    Calls Tryd.prog 142 #[x, .int .u32 z] w fun e w' => e = .returned (.bool (dec (ConnL E (bitsOf W)))) ∧ Below w.heap.size w w' := by
  subst hz
  by_cases h0 : W = 0
  · subst h0
    have HD := Lib.hid (dec_false (show ¬ ConnL E (bitsOf 0) by rw [bitsOf_zero]; exact not_connL_nil E))
    go_enter Tryd.func142, Tryd.ntmps142
    go_wp2
    go_ret
    exact ⟨by rw [HD.out]; rfl, Below.refl _ _⟩
  · have h0' : ((W : Int) != 0) = true := by simp; omega
    have hst := bitsOf_step W h0 (by omega)
    obtain ⟨hub, _, _⟩ := testBit_ctz W h0 (by omega)
    obtain ⟨u, hu⟩ : ∃ u, u = Lib.ctz 32 W := ⟨_, rfl⟩
    rw [← hu] at hst hub
    have HU := Lib.hid hu
    have HUB := Lib.hid hub
    have H0 := Lib.hid h0
    have HX := Lib.hid hx
    have HT := Lib.hid hT
    have HWN := Lib.hid hWn
    have HEQ : Hid (∀ m : Nat, m < 65536 → (∀ i, m.testBit i = true ↔ i ∈ partL E (bitsOf W) u) → ((m : Int) == (W : Int)) = dec (ConnL E (bitsOf W))) := Lib.hid (fun m hm hmb => by
      have hi : ConnL E (bitsOf W) ↔ m = W := by
        rw [hst, connL_part, ← hst]
        constructor
        · intro e
          refine Nat.eq_of_testBit_eq fun i => ?_
          rw [Bool.eq_iff_iff, hmb i, e, mem_left hW]
        · rintro rfl
          refine rising_ext _ _ (partL_rising (bitsOf_rising _) u) (bitsOf_rising _) fun i => ?_
          rw [← hmb i, mem_left hW]
      by_cases e : m = W
      · rw [dec_true (hi.2 e), e]; simp
      · rw [dec_false (fun k => e (hi.1 k))]
        simp
        omega)
    clear hu hub h0 hst hx hT hWn
    go_enter Tryd.func142, Tryd.ntmps142
    go_wp2_with (first
      | (go_at_call 175; refine (reach_any _ _ _ n E u W rfl rfl hW HWN.out HUB.out _ HX.out HT.out).mono ?_; rintro e w4 ⟨m, rfl, hm16, hmb, hb4⟩; have hme := HEQ.out m hm16 hmb; clear hmb)
      | (go_at_call 108; refine (least_any _ W rfl H0.out (by omega) _ HT.out).mono ?_; rintro e w3 ⟨he3, rfl⟩; rw [← HU.out] at he3; subst he3))
    go_ret
    exact ⟨ret_bool (by first | exact hme | rfl | (rw [hme])), hb4⟩

/-- A connected set of a right graph. -/
def ConnS (g : List (List Int)) (s : List Int) : Prop := (GOk g ∧ SetIn g.length s) ∧ ConnL (ofG g) (s.map Int.toNat)
theorem setIn_nats {n : Nat} {s : List Int} (h : SetIn n s) : natInts (s.map Int.toNat) = s ∧ (s.map Int.toNat).Pairwise (· < ·) ∧ ∀ x ∈ s.map Int.toNat, x < n := by
  refine ⟨?_, ?_, ?_⟩
  · unfold natInts
    rw [List.map_map]
    conv => rhs; rw [← List.map_id s]
    exact List.map_congr_left fun x hx => Int.toNat_of_nonneg (h.1 x hx).1
  · refine List.pairwise_map.2 (h.2.imp_of_mem fun {a b} ha hb k => ?_)
    have := (h.1 a ha).1
    have := (h.1 b hb).1
    omega
  · intro x hx
    obtain ⟨y, hy, rfl⟩ := List.mem_map.1 hx
    have := h.1 y hy
    omega
theorem bits_maskS {n : Nat} {s : List Int} (hn : n ≤ 16) (h : SetIn n s) : bitsOf (mask s) = s.map Int.toNat := by
  obtain ⟨h1, h2, h3⟩ := setIn_nats h
  conv => lhs; rw [← h1]
  exact bitsOf_maskN h2 fun x hx => by have := h3 x hx; omega


theorem ty_vsets' : SlTy Tryd.prog 75 79 (.int .u32 0) 1 4 := ⟨Tryd.underlying75, by kernel_rfl, rfl, by decide, by decide⟩
set_option maxRecDepth 100000 in
set_option maxHeartbeats 1000000 in
theorem bagMasks_any (v : Value) (S : List (List Int)) (hS : ∀ j, j < S.length → ∀ x ∈ row S j, 0 ≤ x ∧ x < 16) (hl : S.length ≤ 1000000) (w : World) (hr : Rws w 36 2 v S) :
    Calls Tryd.prog 141 #[v] w fun e w' => ∃ u, e = .returned u ∧ w'.ownsRow w.heap.size 79 1 u S.length ((S.map mask).map u32v) ∧ Below w.heap.size w w' := by
  obtain ⟨p, c, rfl, _⟩ := hr.shape
  have HR := Lib.hid hr
  have HS := Lib.hid hS
  have START := Lib.hid (ownsRow_empty w 79 1)
  clear hr hS
  go_enter Tryd.func141, Tryd.ntmps141
  go_wp2
  go_loopw [3, 9] (fun ov i wr => ∃ k : Nat, k ≤ S.length ∧ i = .int .i64 k ∧ wr.ownsRow w.heap.size 79 1 ov k (((S.take k).map mask).map u32v) ∧ Below w.heap.size w wr) (fun _ i _ => S.length - (intOf i).toNat)
  case atStart => exact ⟨0, Nat.zero_le _, rfl, START.out, below_alloc _ _⟩
  case round =>
    clear START
    obtain ⟨k, hk, rfl, hown, hb⟩ := hrel
    have HO := Lib.hid hown
    have HB := Lib.hid hb
    by_cases hlt : k < S.length
    · obtain ⟨eb, eo, rp, rc, rfl, hce, hne⟩ := (HR.out.below hb).get hlt
      obtain ⟨m, hm⟩ : ∃ m, m = mask (row S k) := ⟨_, rfl⟩
      have HM := Lib.hid hm
      have HNE : Hid (Nums wr 2 .i64 (.slice rp (row S k).length rc) (row S k)) := Lib.hid hne
      have HT : Hid ((S.take (k + 1)).map mask = (S.take k).map mask ++ [m]) := Lib.hid (by rw [take_snoc' S k hlt, List.map_append, hm]; simp [row, hlt])
      have hks : k < 1000000000 := by omega
      have hce' : wr.cell? ⟨eb, eo + k, none⟩ = some (.slice rp (row S k).length rc) := hce
      generalize (row S k).length = rl at hce' HNE
      clear hown hb hne hm hce
      go_wp2_with (first
        | (go_at_call 102; refine (maskOf_any _ (row S k) (HS.out k hlt) _ HNE.out).mono ?_; rintro e w4 ⟨he4, hw4⟩; rw [← HM.out] at he4; subst he4; subst hw4; have ho4 := HO.out)
        | (at_builtin; refine wpList_app1s ty_vsets' rfl rfl rfl ho4 rfl rfl hks HB.out.size ?_; intro b7 c8 w7 hown7 hg7 _))
      go_roundw
      case rel => exact ⟨k + 1, by omega, by go_num, by rw [HT.out, List.map_append]; exact hown7, below_grown HB.out ho4 hg7 (Nat.le_refl _) HB.out.size⟩
      case measure => simp [intOf]; omega
    · obtain rfl : k = S.length := by omega
      rw [List.take_length] at HO
      go_wp2
      go_ret
      exact ⟨_, rfl, HO.out, HB.out⟩

end Go.Proofs.YtmakhapdlkbbnaaDoor
