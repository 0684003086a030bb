/- Walks: the reference's two graphs beside each other. -/
import Derived.Test.YtkppbmfliejnmaaDoorLpQ42
import Derived.Test.YtkppbmfliejnmaaDoorLpQ29
import Derived.Test.YtkppbmfliejnmaaDoorLpQ41
import Derived.Test.YtkppbmfliejnmaaDoorLpQ8
import Derived.Test.YtkppbmfliejnmaaDoorLpQ9
import Derived.Test.YtkppbmfliejnmaaDoorLpQ23
import Derived.Test.YtkppbmfliejnmaaDoorLpQ34
import Derived.Deep.RegionLaw
import Derived.Deep.DeepCutAuto
import Derived.Deep.RegionHeld3
namespace Go.Proofs.YtkppbmfliejnmaaDoor
open Go.RowKit

/-- The rows of the second graph, moved. -/
def movedN (n : Nat) (h : List (List Int)) (k : Nat) : List (List Int) := (List.range k).map fun v => (row h v).map fun x => (n : Int) + x
theorem movedN_succ (n : Nat) (h : List (List Int)) (k : Nat) : movedN n h (k + 1) = movedN n h k ++ [(row h k).map fun x => (n : Int) + x] := by
  simp [movedN, List.range_succ]
theorem movedN_length (n : Nat) (h : List (List Int)) (k : Nat) : (movedN n h k).length = k := by simp [movedN]
theorem filter_app_right {n m : Nat} {P : Nat → Bool} (h : ∀ x, x < n → P x = false) : (List.range (n + m)).filter P = ((List.range m).filter fun x => P (n + x)).map (n + ·) := by
  rw [range_beside, List.filter_append, List.filter_map]
  rw [List.filter_eq_nil_iff.2 fun x hx => by rw [h x (List.mem_range.1 hx)]; decide]
  rfl
theorem filter_app_left {n m : Nat} {P : Nat → Bool} (h : ∀ x, x < m → P (n + x) = false) : (List.range (n + m)).filter P = (List.range n).filter P := by
  rw [range_beside, List.filter_append, List.filter_map]
  rw [show (List.range m).filter (P ∘ (n + ·)) = [] from List.filter_eq_nil_iff.2 fun x hx => by
    simp only [Function.comp]
    rw [h x (List.mem_range.1 hx)]; decide]
  simp
theorem bes_rows {g h : List (List Int)} (hg : GOk g) (hh : GOk h) : g ++ movedN g.length h h.length = matG (g.length + h.length) (besE g.length (ofG g) (ofG h)) := by
  refine graph_ext (by rw [List.length_append, movedN_length, matG_length]) fun j hj => ?_
  rw [List.length_append, movedN_length] at hj
  rw [row_matG hj]
  by_cases hjg : j < g.length
  · have e1 : row (g ++ movedN g.length h h.length) j = row g j := by simp [row, List.getElem?_append_left hjg]
    rw [e1, filter_app_left fun x _ => by rw [bes_low hjg]; simp [show ¬ g.length + x < g.length by omega]]
    have h2 := row_matG (E := ofG g) hjg
    rw [matG_ofG hg] at h2
    rw [h2]
    congr 1
    exact List.filter_congr fun x hx => by rw [bes_low hjg]; simp [List.mem_range.1 hx]
  · obtain ⟨k, rfl⟩ : ∃ k, j = g.length + k := ⟨j - g.length, by omega⟩
    have hk : k < h.length := by omega
    have e1 : row (g ++ movedN g.length h h.length) (g.length + k) = (row h k).map fun x => (g.length : Int) + x := by
      simp [row, List.getElem?_append_right, movedN, hk]
    rw [e1, filter_app_right fun x hx => by rw [bes_high]; simp; intro h3; omega]
    have h2 := row_matG (E := ofG h) hk
    rw [matG_ofG hh] at h2
    rw [h2]
    unfold natInts
    rw [List.map_map, List.map_map]
    have h3 : (List.range h.length).filter (fun x => besE g.length (ofG g) (ofG h) (g.length + k) (g.length + x)) = (List.range h.length).filter (ofG h k) := List.filter_congr fun x _ => by
      rw [bes_high, show g.length + x - g.length = x by omega]; simp
    rw [h3]
    exact List.map_congr_left fun x _ => by simp

/-- A boxed graph that grows at its end. -/
structure BsI (W0 wr : World) (base b6 : Nat) (ov : Value) (gg : List (List Int)) : Prop where
  sg : SG wr base (.agg #[ov]) gg
  box : Box wr b6 29 ov
  bel : Below W0.heap.size W0 wr
  hb : W0.heap.size ≤ base
  b6 : W0.heap.size ≤ b6
  sz : base ≤ wr.heap.size
theorem BsI.next {W0 wr wx : World} {base b6 : Nat} {ov : Value} {gg : List (List Int)} (h : BsI W0 wr base b6 ov gg) (hb : Below wr.heap.size wr wx) : BsI W0 wx base b6 ov gg :=
  ⟨h.sg.below hb, h.box.keep hb, h.bel.trans (hb.mono h.bel.size), h.hb, h.b6, Nat.le_trans h.sz hb.size⟩
theorem BsI.ne {W0 wr : World} {base b6 : Nat} {ov : Value} {gg : List (List Int)} (h : BsI W0 wr base b6 ov gg) : some b6 ≠ ov.ownBlock := fun e => by
  obtain ⟨_, vals, e1, _, ho, _⟩ := h.sg
  cases e1
  rcases ho.2 with ⟨rfl, _⟩ | ⟨k, cap, cur, rfl, _, hgg, _⟩
  · simp [Value.ownBlock] at e
  · simp [Value.ownBlock] at e
    subst e
    have h2 := h.box.blk
    rw [h2] at hgg
    simp only [Option.some.injEq, Obj.cells.injEq] at hgg
    exact absurd hgg.2.1 (by decide)
theorem BsI.push {W0 wc w7 : World} {base b6 : Nat} {ov v' rv : Value} {gg : List (List Int)} {s : List Int} {vals : List Value} (h : BsI W0 wc base b6 ov gg) (hl : vals.length = gg.length) (ho : wc.ownsRow base 33 1 ov gg.length vals) (hr : ∀ j, j < gg.length → Nums wc 2 .i64 (vals.getD j undef) (row gg j))
    (ho' : w7.ownsRow base 33 1 v' (gg.length + 1) (vals ++ [rv])) (hg : wc.grownBy w7 ov.ownBlock) (hn : Nums wc 2 .i64 rv s) : BsI W0 (w7.setCell ⟨b6, 0, none⟩ v') base b6 v' (gg ++ [s]) := by
  have hne := h.ne
  have hbx := h.box.grown hg hne
  have hsg : SG w7 base (.agg #[v']) (gg ++ [s]) := by
    refine ⟨v', vals ++ [rv], rfl, by simp [hl], by rw [List.length_append]; exact ho', fun j hj => ?_⟩
    rw [List.length_append, List.length_singleton] at hj
    by_cases hj2 : j < gg.length
    · rw [getD_append_left _ _ _ _ (by omega)]
      have e : row (gg ++ [s]) j = row gg j := by simp [row, List.getElem?_append_left hj2]
      rw [e]
      exact (hr j hj2).other ho hg (by decide)
    · obtain rfl : j = gg.length := by omega
      have e : row (gg ++ [s]) gg.length = s := by simp [row]
      rw [e, ← hl, getD_append_last]
      exact hn.other ho hg (by decide)
  exact ⟨hsg.setBox hbx _, hbx.set _, (below_grown h.bel ho hg h.hb h.bel.size).setCell h.b6 _, h.hb, h.b6, by rw [World.size_setCell]; exact Nat.le_trans h.sz hg.size⟩



end Go.Proofs.YtkppbmfliejnmaaDoor

/- Walk: a row of numbers narrowed (taken out of XOrdW, which lays it again under its own name). -/
namespace Go.Proofs.YtkppbmfliejnmaaDoor
open Go.RowKit

set_option maxRecDepth 100000 in
set_option maxHeartbeats 1000000 in
theorem narrowN_any (v : Value) (xs : List Int) (w : World) (hx : Nums w 2 .i64 v xs) :
    Calls Tryd.prog 117 #[v] w fun e w' => ∃ u, e = .returned u ∧
      w'.ownsRow w.heap.size 3 1 u xs.length (xs.map (Value.int .i64)) ∧ Below w.heap.size w w' := by
  obtain ⟨p, c, rfl, _, _, hn, hat⟩ := hx
  go_enter Tryd.func117, Tryd.ntmps117
  go_wp2_with (at_make; refine wpList_mk0 ty_int rfl rfl xs.length rfl rfl rfl hn ?_; intro w1 hown1 hg1)
  have hb1 := grown_below hg1
  clear hg1
  go_loopw [3, 5, 11] (fun u _ i wr => ∃ k : Nat, k ≤ xs.length ∧ i = .int .i64 k ∧ wr.ownsRow w.heap.size 3 1 u k ((xs.take k).map (Value.int .i64)) ∧ Below w.heap.size w wr)
    (fun _ _ i _ => xs.length - (intOf i).toNat)
  case atStart => exact ⟨0, Nat.zero_le _, rfl, by simpa using hown1, hb1⟩
  case round =>
    obtain ⟨k, hk, rfl, hown, hbel⟩ := hrel
    clear hown1 hb1
    by_cases hlt : k < xs.length
    · obtain ⟨b, o, rfl, hc⟩ := hat.num hlt
      have hcell := (hbel.cell (p := ⟨b, o + k, none⟩) (World.block_lt_of_cell? w _ hc)).trans hc
      have ht := Lib.hid (take_snoc xs k hlt)
      have hsz := hbel.size
      clear hc hat
      go_wp2_with (at_builtin; refine wpList_app1 ty_int rfl rfl rfl hown rfl rfl (by omega) hsz ?_; intro v' w1 hown' hg _)
      go_roundw
      case rel =>
        refine ⟨k + 1, by omega, by go_num, ?_, below_grown hbel hown hg (Nat.le_refl _) hsz⟩
        rw [ht.out, List.map_append]; exact hown'
      case measure => simp [intOf]; omega
    · obtain rfl : k = xs.length := by omega
      go_wp2
      go_ret
      rw [List.take_length] at hown
      exact ⟨_, rfl, hown, hbel⟩


end Go.Proofs.YtkppbmfliejnmaaDoor

/- Walks: the program's two graphs beside each other, joined, and a part of a graph. -/
namespace Go.Proofs.YtkppbmfliejnmaaDoor
open Go.RowKit

theorem mask_moved (n : Nat) (L : List Nat) : mask (natInts (L.map (n + ·))) = mask (natInts L) * 2 ^ n := by
  refine Nat.eq_of_testBit_eq fun j => ?_
  rw [mask_bit, Nat.testBit_mul_two_pow, mask_bit]
  by_cases hj : n ≤ j
  · have : j ∈ L.map (n + ·) ↔ j - n ∈ L := by
      rw [List.mem_map]
      constructor
      · rintro ⟨x, hx, rfl⟩
        rwa [show n + x - n = x by omega]
      · intro h
        exact ⟨j - n, h, by omega⟩
    simp [hj, this]
  · have : j ∉ L.map (n + ·) := by
      rw [List.mem_map]
      rintro ⟨x, _, rfl⟩
      omega
    simp [hj, this]
theorem netL_get {g : List (List Int)} (hg : GOk g) {j : Nat} (hj : j < g.length) : (netL g).getD j 0 = mask (natInts ((List.range g.length).filter (ofG g j))) := by
  rw [← indN_ofG hg, indN_get hj]
def shiftN (n : Nat) (l : List Nat) : List Nat := l.map fun s => s * 2 ^ n
theorem bes_nets {g h : List (List Int)} (hg : GOk g) (hh : GOk h) : netL g ++ shiftN g.length (netL h) = indN (g.length + h.length) (besE g.length (ofG g) (ofG h)) := by
  have l1 : (netL g).length = g.length := by simp [netL]
  have l2 : (netL h).length = h.length := by simp [netL]
  refine natList_ext (by rw [List.length_append, indN_length, l1]; simp [shiftN, l2]) fun j hj => ?_
  rw [List.length_append, l1] at hj
  have hj : j < g.length + h.length := by simpa [shiftN, l2] using hj
  rw [indN_get hj]
  by_cases hjg : j < g.length
  · have e1 : (netL g ++ shiftN g.length (netL h)).getD j 0 = (netL g).getD j 0 := by
      rw [List.getD_eq_getElem?_getD, List.getD_eq_getElem?_getD, List.getElem?_append_left (by omega)]
    rw [e1, netL_get hg hjg, filter_app_left fun x _ => by rw [bes_low hjg]; simp [show ¬ g.length + x < g.length by omega]]
    congr 2
    exact List.filter_congr fun x hx => by rw [bes_low hjg]; simp [List.mem_range.1 hx]
  · obtain ⟨k, rfl⟩ : ∃ k, j = g.length + k := ⟨j - g.length, by omega⟩
    have hk : k < h.length := by omega
    have e1 : (netL g ++ shiftN g.length (netL h)).getD (g.length + k) 0 = (netL h).getD k 0 * 2 ^ g.length := by
      rw [List.getD_eq_getElem?_getD, List.getElem?_append_right (by omega), l1, show g.length + k - g.length = k by omega]
      simp [shiftN, l2, hk, List.getD_eq_getElem?_getD]
    rw [e1, netL_get hh hk, filter_app_right fun x hx => by rw [bes_high]; simp; intro h3; omega, mask_moved]
    congr 3
    exact List.filter_congr fun x _ => by rw [bes_high, show g.length + x - g.length = x by omega]; simp
theorem shiftN_snoc (n : Nat) (l : List Nat) (s : Nat) : shiftN n (l ++ [s]) = shiftN n l ++ [s * 2 ^ n] := by simp [shiftN]



end Go.Proofs.YtkppbmfliejnmaaDoor

/- Walks: the program's part of a graph; two graphs joined. -/
namespace Go.Proofs.YtkppbmfliejnmaaDoor
open Go.RowKit

def joTo (n : Nat) (E F : Nat → Nat → Bool) (i k : Nat) : Nat → Nat → Bool := fun r j =>
  besE n E F r j || ((decide (r < n) != decide (j < n)) && (decide (min r j < i) || (decide (min r j = i) && decide (max r j < n + k))))
theorem joTo_start {n m : Nat} {E F : Nat → Nat → Bool} : indN m (joTo n E F 0 0) = indN m (besE n E F) := indN_congr fun r j _ _ => by
  unfold joTo
  by_cases h1 : r < n <;> by_cases h2 : j < n <;> simp [h1, h2] <;> omega
theorem joTo_row {n m : Nat} {E F : Nat → Nat → Bool} {i : Nat} : indN (n + m) (joTo n E F i m) = indN (n + m) (joTo n E F (i + 1) 0) := indN_congr fun r j hr hj => by
  unfold joTo
  congr 1
  by_cases h1 : r < n <;> by_cases h2 : j < n <;> simp [h1, h2]
  all_goals
    rw [Bool.eq_iff_iff]
    simp
    omega
theorem joTo_end {n m : Nat} {E F : Nat → Nat → Bool} : indN m (joTo n E F n 0) = indN m (joiE n E F) := indN_congr fun r j _ _ => by
  unfold joTo joiE
  congr 1
  by_cases h1 : r < n <;> by_cases h2 : j < n <;> simp [h1, h2] <;> omega
theorem joTo_step {n m : Nat} {E F : Nat → Nat → Bool} {i k : Nat} (hi : i < n) (hk : k < m) : joinL (indN (n + m) (joTo n E F i k)) i (n + k) = indN (n + m) (joTo n E F i (k + 1)) := by
  have h1 : joTo n E F i (k + 1) i (n + k) = true := by
    unfold joTo
    simp [hi, show min i (n + k) = i by omega, show max i (n + k) = n + k by omega]
  have h2 : joTo n E F i (k + 1) (n + k) i = true := by
    unfold joTo
    simp [hi, show min (n + k) i = i by omega, show max (n + k) i = n + k by omega]
  rw [← joinL_cut (show i < n + m by omega) (show n + k < n + m by omega) (by omega) h1 h2]
  congr 1
  refine indN_congr fun r j hr hj => ?_
  unfold cutE joTo
  by_cases hb : besE n E F r j = true
  · have hne : ¬ ((r = i ∧ j = n + k) ∨ (r = n + k ∧ j = i)) := by
      rintro (⟨rfl, rfl⟩ | ⟨rfl, rfl⟩)
      · rw [bes_low hi] at hb; simp at hb; omega
      · rw [bes_high] at hb; simp at hb; omega
    rw [hb, Bool.eq_iff_iff]
    simp
    omega
  · have hb' : besE n E F r j = false := by simpa using hb
    rw [hb', Bool.eq_iff_iff]
    by_cases h1 : r < n <;> by_cases h2 : j < n <;> simp [h1, h2] <;> omega

set_option maxRecDepth 100000 in
set_option maxHeartbeats 4000000 in
theorem implInduced_yes (v lv : Value) (g : List (List Int)) (ln : List Nat) (hok : GOk g) (hset : SetIn g.length (natInts ln)) (hne : ln ≠ []) (w : World) (hg : Gr w v g) (hn : Nums w 2 .i64 lv (natInts ln)) (hT : Tab w) :
    Calls Tryd.prog 39 #[v, lv] w fun e w' => ∃ u, e = .returned (.tuple #[u, .bool true]) ∧ DG w' w.heap.size u (indL g (natInts ln)) ∧ Below w.heap.size w w' := by
  have hg0 := hg
  obtain ⟨u, rfl, hr⟩ := hg
  obtain ⟨p, c, rfl, _⟩ := hr.shape
  obtain ⟨lp, lc, rfl, _⟩ := id hn.shape
  have hbA := Lib.hid (below_alloc2 w (.cells #[.slice p g.length c] 29) (.cells #[.slice none 0 0] 29))
  have BX := Lib.hid ((Box.new w (.slice p g.length c) 29).alloc (.cells #[.slice none 0 0] 29))
  have BN : Hid (Box ((w.alloc (.cells #[.slice p g.length c] 29)).alloc (.cells #[.slice none 0 0] 29)) (w.heap.size + 1) 29 (.slice none 0 0)) := by
    have := Box.new (w.alloc (.cells #[.slice p g.length c] 29)) (.slice none 0 0) 29
    rw [size_alloc] at this
    exact Lib.hid this
  have HG := Lib.hid (hg0.below hbA.out)
  have HN := Lib.hid (hn.below hbA.out)
  have HT := Lib.hid (hT.keep hbA.out)
  have h0 := hbA.out.size
  have h16 := hok.le
  have hll := setIn_length (by omega) hset
  rw [natInts_length] at hll
  have hd := Lib.hid (dec_true (show GOk g ∧ SetIn g.length (natInts ln) from ⟨hok, hset⟩))
  have HOK := Lib.hid hok
  have HLT : Hid (∀ v ∈ ln, v < g.length) := Lib.hid (fun v hv => by have := (hset.1 v (mem_natInts.2 ⟨v, hv, rfl⟩)).2; omega)
  have HLT2 : Hid (∀ v ∈ ln, v < (netL g).length) := Lib.hid (fun v hv => by rw [show (netL g).length = g.length by simp [netL]]; exact HLT.out v hv)
  have hNl : Hid ((netL g).length = g.length) := Lib.hid (by simp [netL])
  have hne' : (((natInts ln).length : Int) == 0) = false := by
    rw [natInts_length]
    have : 0 < ln.length := List.length_pos_iff.2 hne
    simp; omega
  rw [natInts_length] at hne'
  have hnl := natInts_length ln
  clear hr hg0 hn hT hok hset hne
  simp only [natInts_length] at *
  clear hnl
  go_enter Tryd.func39, Tryd.ntmps39
  go_wp2_with (first
    | (go_at_call 95; refine (implSetOk_any _ _ g (natInts ln) (by omega) _ HG.out HN.out).mono ?_; rintro e w2 ⟨he, hb2⟩; rw [hd.out] at he; subst he; have hbx := (BX.out.keep hb2).cell)
    | (go_at_call 89; refine (netsOf_any _ g _ (HG.out.below hb2) HOK.out).mono ?_; rintro e w3 ⟨x, rfl, hown3, hb3⟩; have HX3 : Hid (Sl w3 70 x (netL g).length ((netL g).map u32v)) := Lib.hid (by rw [hNl.out]; exact Sl.of_owns hown3 (by omega)); clear hown3)
    | (go_at_call 117; refine (narrowN_any _ (natInts ln) _ ((HN.out.below hb2).below hb3)).mono ?_; rintro e w4 ⟨nv, rfl, hown4, hb4⟩; have HN4 : Hid (Nums w4 3 .i64 nv (natInts ln)) := Lib.hid (Nums.of_owns hown4 rfl (by rw [natInts_length]; omega)); clear hown4)
    | (go_at_call 116; refine (induced_any _ _ (netL g) ln (by rw [hNl.out]; exact h16) (netL_lt HOK.out) HLT2.out (by omega) _ (HX3.out.below hb4) HN4.out).mono ?_; rintro e w5 ⟨u5, rfl, ho5, hb5⟩; have HX5 : Hid (Sl w5 70 u5 (indN ln.length (bitE (netL g) ln)).length ((indN ln.length (bitE (netL g) ln)).map u32v)) := Lib.hid (by rw [indN_length]; exact Sl.of_owns ho5 (by omega)); clear ho5)
    | (go_at_call 118; refine (graph_any _ (indN ln.length (bitE (netL g) ln)) (indN_lt16 (by omega)) (by rw [indN_length]; omega) _ HX5.out ((((HT.out.keep hb2).keep hb3).keep hb4).keep hb5)).mono ?_; rintro e w6 ⟨u6, rfl, hd6, hb6⟩; rw [rowsOf_indN (by omega), ← bitE_netL HOK.out HLT.out] at hd6; obtain ⟨p6, c6, rfl⟩ := hd6.shape; obtain ⟨mc, mf, ml, mB⟩ := ((((BN.out.keep hb2).keep hb3).keep hb4).keep hb5).keep hb6))
  have s2 := hb2.size
  rw [size_alloc, size_alloc] at s2
  have s3 := hb3.size
  have s4 := hb4.size
  have s5 := hb5.size
  refine bodyPost_ret (v := .tuple #[.agg #[.slice p6 (indL g (natInts ln)).length c6], .bool true]) (by simp [results, Tryd.results39, go_sem, mc]) rfl ⟨_, rfl, (hd6.setBox ⟨mc, mf, ml, mB⟩ _).base (by omega), ?_⟩
  exact (((((hbA.out.trans (hb2.mono h0)).trans (hb3.mono (by omega))).trans (hb4.mono (by omega))).trans (hb5.mono (by omega))).trans (hb6.mono (by omega))).setCell (by show w.heap.size ≤ w.heap.size + 1; omega) _


end Go.Proofs.YtkppbmfliejnmaaDoor

/- Walks: the laws' dice (big, roll, below). -/
namespace Go.Proofs.YtkppbmfliejnmaaDoor
open Go.RowKit

structure BoxD (w : World) (b : Nat) (x y z : Value) : Prop where
  blk : w.heap[b]? = some (.cells #[x, y, z] 66 (0, 0))
section
variable {w w' : World} {b : Nat} {x y z : Value}
theorem BoxD.c0 (h : BoxD w b x y z) : w.cell? ⟨b, 0, none⟩ = some x := by unfold World.cell?; rw [h.blk]; rfl
theorem BoxD.c1 (h : BoxD w b x y z) : w.cell? ⟨b, 1, none⟩ = some y := by unfold World.cell?; rw [h.blk]; rfl
theorem BoxD.c2 (h : BoxD w b x y z) : w.cell? ⟨b, 2, none⟩ = some z := by unfold World.cell?; rw [h.blk]; rfl
theorem BoxD.free (h : BoxD w b x y z) (i : Nat) : w.frozen? ⟨b, i, none⟩ = false := by simp [World.frozen?, h.blk]
theorem BoxD.lt (h : BoxD w b x y z) : b < w.heap.size := lt_of_block h.blk
theorem BoxD.new (w : World) (x y z : Value) : BoxD (w.alloc (.cells #[x, y, z] 66)) w.heap.size x y z := ⟨heap_alloc_new w _⟩
theorem BoxD.to (h : BoxD w b x y z) (hk : w'.heap[b]? = w.heap[b]?) : BoxD w' b x y z := ⟨hk.trans h.blk⟩
theorem BoxD.s1 (h : BoxD w b x y z) (u : Value) : BoxD (w.setCell ⟨b, 1, none⟩ u) b x u z := ⟨by have := heap_setCell_same w b 1 _ _ u h.blk; simpa using this⟩
theorem BoxD.s2 (h : BoxD w b x y z) (u : Value) : BoxD (w.setCell ⟨b, 2, none⟩ u) b x y u := ⟨by have := heap_setCell_same w b 2 _ _ u h.blk; simpa using this⟩
theorem BoxD.keep (h : BoxD w b x y z) (hb : Below w.heap.size w w') : BoxD w' b x y z := h.to (hb.block b h.lt)
end

theorem grown_setD (w : World) (b i : Nat) (u : Value) : w.grownBy (w.setCell ⟨b, i, none⟩ u) (some b) :=
  ⟨rfl, rfl, rfl, by rw [World.size_setCell]; exact Nat.le_refl _, fun k _ hne => Below.heap_setCell _ _ _ _ (fun e => hne (by simp only at e; rw [e]))⟩

/-- The dice stand in block db: the bytes, how many were read, a number. -/
structure Dice (w0 w : World) (db : Nat) (bs : List Int) : Prop where
  ex : ∃ (bv : Value) (i : Nat) (h : Int), BoxD w db bv (.int .i64 i) (.int .u64 h) ∧ i ≤ bs.length ∧ ArgB w0 bv bs
  few : bs.length ≤ 4096
  lo : w0.heap.size ≤ db
  bel : Below w0.heap.size w0 w
theorem Dice.keep {w0 w w' : World} {db : Nat} {bs : List Int} (h : Dice w0 w db bs) (hb : Below w.heap.size w w') : Dice w0 w' db bs := by
  obtain ⟨bv, i, z, h1, h2, h3⟩ := h.ex
  exact ⟨⟨bv, i, z, h1.keep hb, h2, h3⟩, h.few, h.lo, h.bel.trans (hb.mono h.bel.size)⟩
theorem below_grownD {w0 w w' : World} {cb : Nat} (h : Below w0.heap.size w0 w) (hg : w.grownBy w' (some cb)) (hl : w0.heap.size ≤ cb) : Below w0.heap.size w0 w' :=
  ⟨hg.os.trans h.os, hg.tape.trans h.tape, hg.output.trans h.output, Nat.le_trans h.size hg.size, fun k hk => (hg.block k (Nat.lt_of_lt_of_le hk h.size) (fun e => by simp only [Option.some.injEq] at e; omega)).trans (h.block k hk)⟩
theorem andM (x : Int) : ∃ r : Nat, bits BinOp.and IntKind.u64 x 16777215 = (r : Int) ∧ r ≤ 16777215 := by
  refine ⟨(BitVec.ofInt 64 x &&& BitVec.ofInt 64 16777215).toNat, ?_, ?_⟩
  · show IntKind.u64.wrap ((BitVec.ofInt 64 x &&& BitVec.ofInt 64 16777215).toNat : Int) = _
    have h : (BitVec.ofInt 64 x &&& BitVec.ofInt 64 16777215).toNat ≤ 16777215 := by
      rw [BitVec.toNat_and]
      exact Nat.le_trans Nat.and_le_right (by decide)
    generalize (BitVec.ofInt 64 x &&& BitVec.ofInt 64 16777215).toNat = r at h
    simp [IntKind.wrap, IntKind.bits, IntKind.signed]
    omega
  · rw [BitVec.toNat_and]
    exact Nat.le_trans Nat.and_le_right (by decide)

set_option maxRecDepth 100000 in
theorem big_any (v : Value) (bs : List Int) (w : World) (h : ArgB w v bs) :
    Calls Tryd.prog 11 #[v] w fun e w' => e = .returned (.bool (decide (4096 < bs.length))) ∧ w = w' := by
  obtain ⟨p, c, rfl, hl, _⟩ := h
  go_enter Tryd.func11, Tryd.ntmps11
  go_wp2
  go_ret
  exact ⟨ret_bool (by simp; omega), rfl⟩

set_option maxRecDepth 100000 in
set_option maxHeartbeats 4000000 in
theorem below_any (w0 : World) (cb : Nat) (bs : List Int) (k : Nat) (n : Int) (hkn : n = k) (hkp : 0 < k) (hk : k ≤ 1000000) (w : World) (hc : Dice w0 w cb bs) :
    Calls Tryd.prog 28 #[.pointer (some ⟨cb, 0, none⟩), .int .i64 n] w fun e w' => ∃ r : Nat, e = .returned (.int .i64 (r : Int)) ∧ r < k ∧ Dice w0 w' cb bs ∧ w.grownBy w' (some cb) := by
  subst hkn
  have hk0 : ((k : Int) == 0) = false := by simp; omega
  have htm : ∀ r : Nat, Int.tmod (r : Int) (k : Int) = ((r % k : Nat) : Int) := fun r => (Int.ofNat_tmod r k).symm
  have HML : Hid (∀ r : Nat, r % k < k) := Lib.hid (fun r => Nat.mod_lt r hkp)
  obtain ⟨⟨bv, i, h, hb, hi, ha⟩, few, lo, bel⟩ := hc
  obtain ⟨bp, bc, e, ha2⟩ := id ha
  subst e
  have c2 := hb.c2
  have f2 := hb.free 2
  have HB := Lib.hid hb
  have HA := Lib.hid ha
  have HBEL := Lib.hid bel
  clear ha2 ha hb bel
  go_enter Tryd.func28, Tryd.ntmps28
  go_upto_region 1 with fail
  go_cut [14] (fun _ wx => ∃ h2 : Int, wx = w.setCell ⟨cb, 2, none⟩ (.int .u64 h2))
  case first =>
    go_wp2
    go_meet
    exact ⟨_, rfl⟩
  case rest =>
    obtain ⟨h2, rfl⟩ := hcut
    have HB2 := Lib.hid (HB.out.s2 (.int .u64 h2))
    have HG2 := Lib.hid (grown_setD w cb 2 (.int .u64 h2))
    have c2 := HB2.out.c2
    obtain ⟨w2, hw2⟩ : ∃ w2, w2 = w.setCell ⟨cb, 2, none⟩ (.int .u64 h2) := ⟨_, rfl⟩
    rw [← hw2] at c2 HB2 HG2 ⊢
    clear hw2 f2
    obtain ⟨r, hr1, hr⟩ := andM (h2 / 8589934592)
    have hrw : wrap64 (bits BinOp.and IntKind.u64 (h2 / 8589934592) 16777215) = (r : Int) := by rw [hr1]; unfold wrap64; omega
    have c0 := HB2.out.c0
    have c1 := HB2.out.c1
    go_upto_region 3 with fail
    go_cut [31] (fun s wx => s = .bool (decide (i < bs.length)) ∧ Below w2.heap.size w2 wx)
    case first =>
      go_region_held3 (fun w' => w'.cell? ⟨cb, 1, none⟩ = some (.int .i64 i) ∧ w'.cell? ⟨cb, 0, none⟩ = some (.slice bp bs.length bc))
        (first | go_keep | exact ⟨c1, c0⟩)
        (fail)
      all_goals go_wp2
      all_goals go_meet
      all_goals exact ⟨rfl, below_dN (Below.refl _ _) _⟩
    case rest =>
      obtain ⟨rfl, hb4⟩ := hcut
      have HB4 := Lib.hid (HB2.out.keep hb4)
      have HG4 := Lib.hid (grown_trans HG2.out (grown_of_below hb4 _))
      have HL4 := Lib.hid (below_grownD HBEL.out HG4.out lo)
      have c0 := HB4.out.c0
      have c1 := HB4.out.c1
      clear hb4 c2
      by_cases hlt : i < bs.length
      · obtain ⟨xb, xo, rfl, hcx, hx0, hx1⟩ := (HA.out.below HL4.out).get hlt
        generalize bs[i] = x at hcx hx0 hx1
        have hdt : decide (i < bs.length) = true := by simp [hlt]
        have e0 : (0 : Int) ≤ (i : Int) := by omega
        have e1 : (i : Int) < (bs.length : Int) := by omega
        obtain ⟨y, rfl⟩ : ∃ y : Nat, x = (y : Int) := ⟨x.toNat, by omega⟩
        have hwy : IntKind.i64.wrap (y : Int) = (y : Int) := by rw [IntKind.wrap_i64]; omega
        have hws : IntKind.i64.wrap ((r : Int) + (y : Int)) = ((r + y : Nat) : Int) := by rw [IntKind.wrap_i64]; omega
        go_upto_region 4 with fail
        go_cut [5] (fun s wx => s = .int .i64 ((r + y : Nat) : Int) ∧ Below wc.heap.size wc wx)
        case first =>
          go_region_held3 (fun w' => w'.cell? ⟨cb, 1, none⟩ = some (.int .i64 i) ∧ w'.cell? ⟨cb, 0, none⟩ = some (.slice (some ⟨xb, xo, none⟩) bs.length bc) ∧ w'.cell? ⟨xb, xo + i, none⟩ = some (.int .u8 (y : Int)))
            (first | go_keep | exact ⟨c1, c0, hcx⟩)
            (fail)
          all_goals go_wp2
          all_goals go_meet
          all_goals exact ⟨by first | rfl | exact val_int (by omega), below_dN (Below.refl _ _) _⟩
        case rest =>
          obtain ⟨rfl, hb5⟩ := hcut
          have HB5 := Lib.hid (HB4.out.keep hb5)
          have HG5 := Lib.hid (grown_trans HG4.out (grown_of_below hb5 _))
          have c1 := HB5.out.c1
          have f1 := HB5.out.free 1
          have htm2 := htm (r + y)
          clear hb5 hcx c0 htm
          generalize r + y = z at *
          go_wp2
          go_ret
          have HB6 := HB5.out.s1 (.int .i64 ((i + 1 : Nat) : Int))
          have HG6 := grown_trans HG5.out (grown_setD wc cb 1 (.int .i64 ((i + 1 : Nat) : Int)))
          exact ⟨z % k, by first | rfl | (rw [← htm2]; rfl), HML.out _, ⟨⟨_, i + 1, h2, HB6, by omega, HA.out⟩, few, lo, below_grownD HBEL.out HG6 lo⟩, HG6⟩
      · have hdt : decide (i < bs.length) = false := by simp [hlt]
        have htm2 := htm r
        go_wp2
        go_ret
        exact ⟨r % k, by first | rfl | (rw [← htm2]; rfl), HML.out _, ⟨⟨_, i, h2, HB4.out, hi, HA.out⟩, few, lo, HL4.out⟩, HG4.out⟩

end Go.Proofs.YtkppbmfliejnmaaDoor
