/- Walks: how many edges a graph has, of both (out of XFillM, without what that text needs besides). -/
import Derived.Test.YtkppbmfliejnmaaDoorRbQ41
import Derived.Test.YtkppbmfliejnmaaDoorRbQ6
import Derived.Test.YtkppbmfliejnmaaDoorRbQ40
import Derived.Test.YtkppbmfliejnmaaDoorRbQ14
import Derived.Test.YtkppbmfliejnmaaDoorRbQ11
import Derived.Test.YtkppbmfliejnmaaDoorRbQ28
import Derived.Test.YtkppbmfliejnmaaDoorRbQ20
import Derived.Test.YtkppbmfliejnmaaDoorRbQ16
namespace Go.Proofs.YtkppbmfliejnmaaDoor
open Go.RowKit

theorem gok_rowsN {g : List (List Int)} (hok : GOk g) (j : Nat) : (row g j).length ≤ 16 := by
  have h16 := hok.le
  by_cases hj : j < g.length
  · have h1 := setIn_length (by omega) (hok.sets j hj).1; omega
  · rw [row_out hj]; simp

theorem specManyN_any (v : Value) (g : List (List Int)) (hok : GOk g) (w : World) (hg : Gr w v g) :
    Calls Tryd.prog 56 #[v] w fun e w' => e = .returned (.int .i64 (cntE g g.length : Nat)) ∧ Below w.heap.size w w' := by
  have hg0 := hg
  obtain ⟨u, rfl, hr⟩ := hg
  obtain ⟨p, c, rfl, _⟩ := hr.shape
  have hbA := Lib.hid (below_alloc w (.cells #[.slice p g.length c] 29))
  have BX := Lib.hid (Box.new w (.slice p g.length c) 29)
  have HG := Lib.hid (hg0.below hbA.out)
  have hd := dec_true hok
  have Hok := Lib.hid hok
  have h16 := hok.le
  clear hr hg0 hok
  go_enter Tryd.func56, Tryd.ntmps56
  go_wp2_with (first
    | (go_at_call 73; refine (specGraphOk_any _ g _ HG.out).mono ?_; rintro e w2 ⟨rfl, hb2⟩; have hbx := (BX.out.keep hb2).cell)
    | (go_at_call 140; refine (l1Edges_any _ g h16 (gok_rowsN Hok.out) _ (HG.out.below hb2)).mono ?_; rintro e w3 ⟨u3, vals, rfl, ho3, hb3⟩; obtain ⟨p3, c3, rfl⟩ := owns_shape ho3))
  go_ret
  exact ⟨rfl, (hbA.out.trans (hb2.mono hbA.out.size)).trans (hb3.mono (Nat.le_trans hbA.out.size hb2.size))⟩

theorem implManyN_any (v : Value) (g : List (List Int)) (hok : GOk g) (w : World) (hg : Gr w v g) :
    Calls Tryd.prog 76 #[v] w fun e w' => e = .returned (.int .i64 (cntE g g.length : Nat)) ∧ Below w.heap.size w w' := by
  have hd := dec_true hok
  have Hok := Lib.hid hok
  have h16 := hok.le
  clear hok
  have E : Hid (∀ (w : World), Gr w v g → Calls Tryd.prog 171 #[v] w fun e w' => ∃ p c, e = .returned (.slice p (cntE g g.length) c) ∧ Below w.heap.size w w') := Lib.hid (by
    clear hg w
    intro w hg
    have hg0 := hg
    obtain ⟨u, rfl, hr⟩ := hg
    obtain ⟨p, c, rfl, _⟩ := hr.shape
    have hbA := Lib.hid (below_alloc w (.cells #[.slice p g.length c] 29))
    have BX := Lib.hid (Box.new w (.slice p g.length c) 29)
    have HG := Lib.hid (hg0.below hbA.out)
    clear hr hg0
    go_enter Tryd.func171, Tryd.ntmps171
    go_wp2_with (first
      | (go_at_call 87; refine (implGraphOk_any _ g _ HG.out).mono ?_; rintro e w2 ⟨rfl, hb2⟩; have hbx := (BX.out.keep hb2).cell)
      | (go_at_call 217; refine (edgesOf_any _ g h16 (gok_rowsN Hok.out) _ (HG.out.below hb2)).mono ?_; rintro e w3 ⟨u3, vals, rfl, ho3, hb3⟩; obtain ⟨p3, c3, rfl⟩ := owns_shape ho3))
    go_ret
    exact ⟨_, _, rfl, (hbA.out.trans (hb2.mono hbA.out.size)).trans (hb3.mono (Nat.le_trans hbA.out.size hb2.size))⟩)
  have hg0 := hg
  obtain ⟨u, rfl, hr⟩ := hg
  obtain ⟨p, c, rfl, _⟩ := hr.shape
  have hbA := Lib.hid (below_alloc w (.cells #[.slice p g.length c] 29))
  have HG := Lib.hid (hg0.below hbA.out)
  clear hr hg0
  go_enter Tryd.func76, Tryd.ntmps76
  go_wp2_with (go_at_call 171; refine (E.out _ HG.out).mono ?_; rintro e w2 ⟨p2, c2, rfl, hb2⟩)
  go_ret
  exact ⟨rfl, hbA.out.trans (hb2.mono hbA.out.size)⟩

end Go.Proofs.YtkppbmfliejnmaaDoor

/- Walks: the reference's two graphs beside each other. -/
namespace Go.Proofs.YtkppbmfliejnmaaDoor
open Go.RowKit

/-- The rows of the second graph, moved. -/
def movedN (n : Nat) (h : List (List Int)) (k : Nat) : List (List Int) := (List.range k).map fun v => (row h v).map fun x => (n : Int) + x
theorem movedN_succ (n : Nat) (h : List (List Int)) (k : Nat) : movedN n h (k + 1) = movedN n h k ++ [(row h k).map fun x => (n : Int) + x] := by
  simp [movedN, List.range_succ]
theorem movedN_length (n : Nat) (h : List (List Int)) (k : Nat) : (movedN n h k).length = k := by simp [movedN]
theorem filter_app_right {n m : Nat} {P : Nat → Bool} (h : ∀ x, x < n → P x = false) : (List.range (n + m)).filter P = ((List.range m).filter fun x => P (n + x)).map (n + ·) := by
  rw [range_beside, List.filter_append, List.filter_map]
  rw [List.filter_eq_nil_iff.2 fun x hx => by rw [h x (List.mem_range.1 hx)]; decide]
  rfl
theorem filter_app_left {n m : Nat} {P : Nat → Bool} (h : ∀ x, x < m → P (n + x) = false) : (List.range (n + m)).filter P = (List.range n).filter P := by
  rw [range_beside, List.filter_append, List.filter_map]
  rw [show (List.range m).filter (P ∘ (n + ·)) = [] from List.filter_eq_nil_iff.2 fun x hx => by
    simp only [Function.comp]
    rw [h x (List.mem_range.1 hx)]; decide]
  simp
theorem bes_rows {g h : List (List Int)} (hg : GOk g) (hh : GOk h) : g ++ movedN g.length h h.length = matG (g.length + h.length) (besE g.length (ofG g) (ofG h)) := by
  refine graph_ext (by rw [List.length_append, movedN_length, matG_length]) fun j hj => ?_
  rw [List.length_append, movedN_length] at hj
  rw [row_matG hj]
  by_cases hjg : j < g.length
  · have e1 : row (g ++ movedN g.length h h.length) j = row g j := by simp [row, List.getElem?_append_left hjg]
    rw [e1, filter_app_left fun x _ => by rw [bes_low hjg]; simp [show ¬ g.length + x < g.length by omega]]
    have h2 := row_matG (E := ofG g) hjg
    rw [matG_ofG hg] at h2
    rw [h2]
    congr 1
    exact List.filter_congr fun x hx => by rw [bes_low hjg]; simp [List.mem_range.1 hx]
  · obtain ⟨k, rfl⟩ : ∃ k, j = g.length + k := ⟨j - g.length, by omega⟩
    have hk : k < h.length := by omega
    have e1 : row (g ++ movedN g.length h h.length) (g.length + k) = (row h k).map fun x => (g.length : Int) + x := by
      simp [row, List.getElem?_append_right, movedN, hk]
    rw [e1, filter_app_right fun x hx => by rw [bes_high]; simp; intro h3; omega]
    have h2 := row_matG (E := ofG h) hk
    rw [matG_ofG hh] at h2
    rw [h2]
    unfold natInts
    rw [List.map_map, List.map_map]
    have h3 : (List.range h.length).filter (fun x => besE g.length (ofG g) (ofG h) (g.length + k) (g.length + x)) = (List.range h.length).filter (ofG h k) := List.filter_congr fun x _ => by
      rw [bes_high, show g.length + x - g.length = x by omega]; simp
    rw [h3]
    exact List.map_congr_left fun x _ => by simp

/-- A boxed graph that grows at its end. -/
structure BsI (W0 wr : World) (base b6 : Nat) (ov : Value) (gg : List (List Int)) : Prop where
  sg : SG wr base (.agg #[ov]) gg
  box : Box wr b6 29 ov
  bel : Below W0.heap.size W0 wr
  hb : W0.heap.size ≤ base
  b6 : W0.heap.size ≤ b6
  sz : base ≤ wr.heap.size
theorem BsI.next {W0 wr wx : World} {base b6 : Nat} {ov : Value} {gg : List (List Int)} (h : BsI W0 wr base b6 ov gg) (hb : Below wr.heap.size wr wx) : BsI W0 wx base b6 ov gg :=
  ⟨h.sg.below hb, h.box.keep hb, h.bel.trans (hb.mono h.bel.size), h.hb, h.b6, Nat.le_trans h.sz hb.size⟩
theorem BsI.ne {W0 wr : World} {base b6 : Nat} {ov : Value} {gg : List (List Int)} (h : BsI W0 wr base b6 ov gg) : some b6 ≠ ov.ownBlock := fun e => by
  obtain ⟨_, vals, e1, _, ho, _⟩ := h.sg
  cases e1
  rcases ho.2 with ⟨rfl, _⟩ | ⟨k, cap, cur, rfl, _, hgg, _⟩
  · simp [Value.ownBlock] at e
  · simp [Value.ownBlock] at e
    subst e
    have h2 := h.box.blk
    rw [h2] at hgg
    simp only [Option.some.injEq, Obj.cells.injEq] at hgg
    exact absurd hgg.2.1 (by decide)
theorem BsI.push {W0 wc w7 : World} {base b6 : Nat} {ov v' rv : Value} {gg : List (List Int)} {s : List Int} {vals : List Value} (h : BsI W0 wc base b6 ov gg) (hl : vals.length = gg.length) (ho : wc.ownsRow base 33 1 ov gg.length vals) (hr : ∀ j, j < gg.length → Nums wc 2 .i64 (vals.getD j undef) (row gg j))
    (ho' : w7.ownsRow base 33 1 v' (gg.length + 1) (vals ++ [rv])) (hg : wc.grownBy w7 ov.ownBlock) (hn : Nums wc 2 .i64 rv s) : BsI W0 (w7.setCell ⟨b6, 0, none⟩ v') base b6 v' (gg ++ [s]) := by
  have hne := h.ne
  have hbx := h.box.grown hg hne
  have hsg : SG w7 base (.agg #[v']) (gg ++ [s]) := by
    refine ⟨v', vals ++ [rv], rfl, by simp [hl], by rw [List.length_append]; exact ho', fun j hj => ?_⟩
    rw [List.length_append, List.length_singleton] at hj
    by_cases hj2 : j < gg.length
    · rw [getD_append_left _ _ _ _ (by omega)]
      have e : row (gg ++ [s]) j = row gg j := by simp [row, List.getElem?_append_left hj2]
      rw [e]
      exact (hr j hj2).other ho hg (by decide)
    · obtain rfl : j = gg.length := by omega
      have e : row (gg ++ [s]) gg.length = s := by simp [row]
      rw [e, ← hl, getD_append_last]
      exact hn.other ho hg (by decide)
  exact ⟨hsg.setBox hbx _, hbx.set _, (below_grown h.bel ho hg h.hb h.bel.size).setCell h.b6 _, h.hb, h.b6, by rw [World.size_setCell]; exact Nat.le_trans h.sz hg.size⟩



end Go.Proofs.YtkppbmfliejnmaaDoor

/- Walk: a row of numbers narrowed (taken out of XOrdW, which lays it again under its own name). -/
namespace Go.Proofs.YtkppbmfliejnmaaDoor
open Go.RowKit

set_option maxRecDepth 100000 in
set_option maxHeartbeats 1000000 in
theorem narrowN_any (v : Value) (xs : List Int) (w : World) (hx : Nums w 2 .i64 v xs) :
    Calls Tryd.prog 117 #[v] w fun e w' => ∃ u, e = .returned u ∧
      w'.ownsRow w.heap.size 3 1 u xs.length (xs.map (Value.int .i64)) ∧ Below w.heap.size w w' := by
  obtain ⟨p, c, rfl, _, _, hn, hat⟩ := hx
  go_enter Tryd.func117, Tryd.ntmps117
  go_wp2_with (at_make; refine wpList_mk0 ty_int rfl rfl xs.length rfl rfl rfl hn ?_; intro w1 hown1 hg1)
  have hb1 := grown_below hg1
  clear hg1
  go_loopw [3, 5, 11] (fun u _ i wr => ∃ k : Nat, k ≤ xs.length ∧ i = .int .i64 k ∧ wr.ownsRow w.heap.size 3 1 u k ((xs.take k).map (Value.int .i64)) ∧ Below w.heap.size w wr)
    (fun _ _ i _ => xs.length - (intOf i).toNat)
  case atStart => exact ⟨0, Nat.zero_le _, rfl, by simpa using hown1, hb1⟩
  case round =>
    obtain ⟨k, hk, rfl, hown, hbel⟩ := hrel
    clear hown1 hb1
    by_cases hlt : k < xs.length
    · obtain ⟨b, o, rfl, hc⟩ := hat.num hlt
      have hcell := (hbel.cell (p := ⟨b, o + k, none⟩) (World.block_lt_of_cell? w _ hc)).trans hc
      have ht := Lib.hid (take_snoc xs k hlt)
      have hsz := hbel.size
      clear hc hat
      go_wp2_with (at_builtin; refine wpList_app1 ty_int rfl rfl rfl hown rfl rfl (by omega) hsz ?_; intro v' w1 hown' hg _)
      go_roundw
      case rel =>
        refine ⟨k + 1, by omega, by go_num, ?_, below_grown hbel hown hg (Nat.le_refl _) hsz⟩
        rw [ht.out, List.map_append]; exact hown'
      case measure => simp [intOf]; omega
    · obtain rfl : k = xs.length := by omega
      go_wp2
      go_ret
      rw [List.take_length] at hown
      exact ⟨_, rfl, hown, hbel⟩


end Go.Proofs.YtkppbmfliejnmaaDoor

/- Walks: the program's tests of a set, and of a connected one; the masks of several sets. -/
namespace Go.Proofs.YtkppbmfliejnmaaDoor
open Go.RowKit

set_option maxRecDepth 100000 in
set_option maxHeartbeats 1000000 in
theorem implSetOk_any (v lv : Value) (g : List (List Int)) (s : List Int) (hgl : g.length ≤ 1000000000) (w : World) (hg : Gr w v g) (hn : Nums w 2 .i64 lv s) :
    Calls Tryd.prog 95 #[v, lv] w fun e w' => e = .returned (.bool (dec (GOk g ∧ SetIn g.length s))) ∧ Below w.heap.size w w' := by
  have hg0 := hg
  obtain ⟨u, rfl, hr⟩ := hg
  obtain ⟨p, c, rfl, _⟩ := hr.shape
  have hbA := Lib.hid (below_alloc w (.cells #[.slice p g.length c] 29))
  have HG := Lib.hid (hg0.below hbA.out)
  have HN := Lib.hid (hn.below hbA.out)
  have BX := Lib.hid (Box.new w (.slice p g.length c) 29)
  clear hr hg0 hn
  by_cases hok : GOk g
  · have hd := Lib.hid (dec_true hok)
    have HD : Hid (dec (SetIn g.length s) = dec (GOk g ∧ SetIn g.length s)) := Lib.hid (dec_congr ⟨fun h => ⟨hok, h⟩, fun h => h.2⟩)
    clear hok
    go_enter Tryd.func95, Tryd.ntmps95
    go_wp2_with (first
      | (go_at_call 87; refine (implGraphOk_any _ g _ HG.out).mono ?_; rintro e w2 ⟨he, hb2⟩; rw [hd.out] at he; subst he; have hbx := (BX.out.keep hb2).cell)
      | (go_at_call 177; refine (increasing_any _ s g.length (by omega) (by omega) _ (HN.out.below hb2)).mono ?_; rintro e w3 ⟨he3, hw3⟩; rw [HD.out] at he3; subst he3; subst hw3))
    go_ret
    exact ⟨rfl, hbA.out.trans (hb2.mono hbA.out.size)⟩
  · have hd := Lib.hid (dec_false hok)
    have HD := Lib.hid (dec_false (show ¬ (GOk g ∧ SetIn g.length s) from fun h => hok h.1))
    clear hok
    go_enter Tryd.func95, Tryd.ntmps95
    go_wp2_with (go_at_call 87; refine (implGraphOk_any _ g _ HG.out).mono ?_; rintro e w2 ⟨he, hb2⟩; rw [hd.out] at he; subst he)
    go_ret
    exact ⟨by rw [HD.out]; rfl, hbA.out.trans (hb2.mono hbA.out.size)⟩

set_option maxRecDepth 100000 in
set_option maxHeartbeats 1000000 in
theorem connected_any (x : Value) (z : Int) (n : Nat) (E : Nat → Nat → Bool) (W : Nat) (hz : z = W) (hW : W < 65536) (hWn : ∀ i, W.testBit i = true → i < n) (w : World) (hx : NE w x n E) (hT : Tab w) :
    Calls Tryd.prog 176 #[x, .int .u32 z] w fun e w' => e = .returned (.bool (dec (ConnL E (bitsOf W)))) ∧ Below w.heap.size w w' := by
  subst hz
  by_cases h0 : W = 0
  · subst h0
    have HD := Lib.hid (dec_false (show ¬ ConnL E (bitsOf 0) by rw [bitsOf_zero]; exact not_connL_nil E))
    go_enter Tryd.func176, Tryd.ntmps176
    go_wp2
    go_ret
    exact ⟨by rw [HD.out]; rfl, Below.refl _ _⟩
  · have h0' : ((W : Int) != 0) = true := by simp; omega
    have hst := bitsOf_step W h0 (by omega)
    obtain ⟨hub, _, _⟩ := testBit_ctz W h0 (by omega)
    obtain ⟨u, hu⟩ : ∃ u, u = Lib.ctz 32 W := ⟨_, rfl⟩
    rw [← hu] at hst hub
    have HU := Lib.hid hu
    have HUB := Lib.hid hub
    have H0 := Lib.hid h0
    have HX := Lib.hid hx
    have HT := Lib.hid hT
    have HWN := Lib.hid hWn
    have HEQ : Hid (∀ m : Nat, m < 65536 → (∀ i, m.testBit i = true ↔ i ∈ partL E (bitsOf W) u) → ((m : Int) == (W : Int)) = dec (ConnL E (bitsOf W))) := Lib.hid (fun m hm hmb => by
      have hi : ConnL E (bitsOf W) ↔ m = W := by
        rw [hst, connL_part, ← hst]
        constructor
        · intro e
          refine Nat.eq_of_testBit_eq fun i => ?_
          rw [Bool.eq_iff_iff, hmb i, e, mem_left hW]
        · rintro rfl
          refine rising_ext _ _ (partL_rising (bitsOf_rising _) u) (bitsOf_rising _) fun i => ?_
          rw [← hmb i, mem_left hW]
      by_cases e : m = W
      · rw [dec_true (hi.2 e), e]; simp
      · rw [dec_false (fun k => e (hi.1 k))]
        simp
        omega)
    clear hu hub h0 hst hx hT hWn
    go_enter Tryd.func176, Tryd.ntmps176
    go_wp2_with (first
      | (go_at_call 219; refine (reach_any _ _ _ n E u W rfl rfl hW HWN.out HUB.out _ HX.out HT.out).mono ?_; rintro e w4 ⟨m, rfl, hm16, hmb, hb4⟩; have hme := HEQ.out m hm16 hmb; clear hmb)
      | (go_at_call 185; refine (least_any _ W rfl H0.out (by omega) _ HT.out).mono ?_; rintro e w3 ⟨he3, rfl⟩; rw [← HU.out] at he3; subst he3))
    go_ret
    exact ⟨ret_bool (by first | exact hme | rfl | (rw [hme])), hb4⟩

/-- A connected set of a right graph. -/
def ConnS (g : List (List Int)) (s : List Int) : Prop := (GOk g ∧ SetIn g.length s) ∧ ConnL (ofG g) (s.map Int.toNat)
theorem setIn_nats {n : Nat} {s : List Int} (h : SetIn n s) : natInts (s.map Int.toNat) = s ∧ (s.map Int.toNat).Pairwise (· < ·) ∧ ∀ x ∈ s.map Int.toNat, x < n := by
  refine ⟨?_, ?_, ?_⟩
  · unfold natInts
    rw [List.map_map]
    conv => rhs; rw [← List.map_id s]
    exact List.map_congr_left fun x hx => Int.toNat_of_nonneg (h.1 x hx).1
  · refine List.pairwise_map.2 (h.2.imp_of_mem fun {a b} ha hb k => ?_)
    have := (h.1 a ha).1
    have := (h.1 b hb).1
    omega
  · intro x hx
    obtain ⟨y, hy, rfl⟩ := List.mem_map.1 hx
    have := h.1 y hy
    omega
theorem bits_maskS {n : Nat} {s : List Int} (hn : n ≤ 16) (h : SetIn n s) : bitsOf (mask s) = s.map Int.toNat := by
  obtain ⟨h1, h2, h3⟩ := setIn_nats h
  conv => lhs; rw [← h1]
  exact bitsOf_maskN h2 fun x hx => by have := h3 x hx; omega



end Go.Proofs.YtkppbmfliejnmaaDoor

/- Walks: the program's two graphs beside each other, joined, and a part of a graph. -/
namespace Go.Proofs.YtkppbmfliejnmaaDoor
open Go.RowKit

theorem mask_moved (n : Nat) (L : List Nat) : mask (natInts (L.map (n + ·))) = mask (natInts L) * 2 ^ n := by
  refine Nat.eq_of_testBit_eq fun j => ?_
  rw [mask_bit, Nat.testBit_mul_two_pow, mask_bit]
  by_cases hj : n ≤ j
  · have : j ∈ L.map (n + ·) ↔ j - n ∈ L := by
      rw [List.mem_map]
      constructor
      · rintro ⟨x, hx, rfl⟩
        rwa [show n + x - n = x by omega]
      · intro h
        exact ⟨j - n, h, by omega⟩
    simp [hj, this]
  · have : j ∉ L.map (n + ·) := by
      rw [List.mem_map]
      rintro ⟨x, _, rfl⟩
      omega
    simp [hj, this]
theorem netL_get {g : List (List Int)} (hg : GOk g) {j : Nat} (hj : j < g.length) : (netL g).getD j 0 = mask (natInts ((List.range g.length).filter (ofG g j))) := by
  rw [← indN_ofG hg, indN_get hj]
def shiftN (n : Nat) (l : List Nat) : List Nat := l.map fun s => s * 2 ^ n
theorem bes_nets {g h : List (List Int)} (hg : GOk g) (hh : GOk h) : netL g ++ shiftN g.length (netL h) = indN (g.length + h.length) (besE g.length (ofG g) (ofG h)) := by
  have l1 : (netL g).length = g.length := by simp [netL]
  have l2 : (netL h).length = h.length := by simp [netL]
  refine natList_ext (by rw [List.length_append, indN_length, l1]; simp [shiftN, l2]) fun j hj => ?_
  rw [List.length_append, l1] at hj
  have hj : j < g.length + h.length := by simpa [shiftN, l2] using hj
  rw [indN_get hj]
  by_cases hjg : j < g.length
  · have e1 : (netL g ++ shiftN g.length (netL h)).getD j 0 = (netL g).getD j 0 := by
      rw [List.getD_eq_getElem?_getD, List.getD_eq_getElem?_getD, List.getElem?_append_left (by omega)]
    rw [e1, netL_get hg hjg, filter_app_left fun x _ => by rw [bes_low hjg]; simp [show ¬ g.length + x < g.length by omega]]
    congr 2
    exact List.filter_congr fun x hx => by rw [bes_low hjg]; simp [List.mem_range.1 hx]
  · obtain ⟨k, rfl⟩ : ∃ k, j = g.length + k := ⟨j - g.length, by omega⟩
    have hk : k < h.length := by omega
    have e1 : (netL g ++ shiftN g.length (netL h)).getD (g.length + k) 0 = (netL h).getD k 0 * 2 ^ g.length := by
      rw [List.getD_eq_getElem?_getD, List.getElem?_append_right (by omega), l1, show g.length + k - g.length = k by omega]
      simp [shiftN, l2, hk, List.getD_eq_getElem?_getD]
    rw [e1, netL_get hh hk, filter_app_right fun x hx => by rw [bes_high]; simp; intro h3; omega, mask_moved]
    congr 3
    exact List.filter_congr fun x _ => by rw [bes_high, show g.length + x - g.length = x by omega]; simp
theorem shiftN_snoc (n : Nat) (l : List Nat) (s : Nat) : shiftN n (l ++ [s]) = shiftN n l ++ [s * 2 ^ n] := by simp [shiftN]



end Go.Proofs.YtkppbmfliejnmaaDoor
