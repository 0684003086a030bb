/- Walks: the reference's two graphs beside each other. -/
import Derived.Test.YtmakhapdlkbbnaaDoorTgQ18
import Derived.Test.YtmakhapdlkbbnaaDoorTgQ19
import Derived.Test.YtmakhapdlkbbnaaDoorTgQ23
namespace Go.Proofs.YtmakhapdlkbbnaaDoor
open Go.RowKit

/-- The rows of the second graph, moved. -/
def movedN (n : Nat) (h : List (List Int)) (k : Nat) : List (List Int) := (List.range k).map fun v => (row h v).map fun x => (n : Int) + x
theorem movedN_succ (n : Nat) (h : List (List Int)) (k : Nat) : movedN n h (k + 1) = movedN n h k ++ [(row h k).map fun x => (n : Int) + x] := by
  simp [movedN, List.range_succ]
theorem movedN_length (n : Nat) (h : List (List Int)) (k : Nat) : (movedN n h k).length = k := by simp [movedN]
theorem filter_app_right {n m : Nat} {P : Nat → Bool} (h : ∀ x, x < n → P x = false) : (List.range (n + m)).filter P = ((List.range m).filter fun x => P (n + x)).map (n + ·) := by
  rw [range_beside, List.filter_append, List.filter_map]
  rw [List.filter_eq_nil_iff.2 fun x hx => by rw [h x (List.mem_range.1 hx)]; decide]
  rfl
theorem filter_app_left {n m : Nat} {P : Nat → Bool} (h : ∀ x, x < m → P (n + x) = false) : (List.range (n + m)).filter P = (List.range n).filter P := by
  rw [range_beside, List.filter_append, List.filter_map]
  rw [show (List.range m).filter (P ∘ (n + ·)) = [] from List.filter_eq_nil_iff.2 fun x hx => by
    simp only [Function.comp]
    rw [h x (List.mem_range.1 hx)]; decide]
  simp
theorem bes_rows {g h : List (List Int)} (hg : GOk g) (hh : GOk h) : g ++ movedN g.length h h.length = matG (g.length + h.length) (besE g.length (ofG g) (ofG h)) := by
  refine graph_ext (by rw [List.length_append, movedN_length, matG_length]) fun j hj => ?_
  rw [List.length_append, movedN_length] at hj
  rw [row_matG hj]
  by_cases hjg : j < g.length
  · have e1 : row (g ++ movedN g.length h h.length) j = row g j := by simp [row, List.getElem?_append_left hjg]
    rw [e1, filter_app_left fun x _ => by rw [bes_low hjg]; simp [show ¬ g.length + x < g.length by omega]]
    have h2 := row_matG (E := ofG g) hjg
    rw [matG_ofG hg] at h2
    rw [h2]
    congr 1
    exact List.filter_congr fun x hx => by rw [bes_low hjg]; simp [List.mem_range.1 hx]
  · obtain ⟨k, rfl⟩ : ∃ k, j = g.length + k := ⟨j - g.length, by omega⟩
    have hk : k < h.length := by omega
    have e1 : row (g ++ movedN g.length h h.length) (g.length + k) = (row h k).map fun x => (g.length : Int) + x := by
      simp [row, List.getElem?_append_right, movedN, hk]
    rw [e1, filter_app_right fun x hx => by rw [bes_high]; simp; intro h3; omega]
    have h2 := row_matG (E := ofG h) hk
    rw [matG_ofG hh] at h2
    rw [h2]
    unfold natInts
    rw [List.map_map, List.map_map]
    have h3 : (List.range h.length).filter (fun x => besE g.length (ofG g) (ofG h) (g.length + k) (g.length + x)) = (List.range h.length).filter (ofG h k) := List.filter_congr fun x _ => by
      rw [bes_high, show g.length + x - g.length = x by omega]; simp
    rw [h3]
    exact List.map_congr_left fun x _ => by simp

/-- A boxed graph that grows at its end. -/
structure BsI (W0 wr : World) (base b6 : Nat) (ov : Value) (gg : List (List Int)) : Prop where
  sg : SG wr base (.agg #[ov]) gg
  box : Box wr b6 29 ov
  bel : Below W0.heap.size W0 wr
  hb : W0.heap.size ≤ base
  b6 : W0.heap.size ≤ b6
  sz : base ≤ wr.heap.size
theorem BsI.next {W0 wr wx : World} {base b6 : Nat} {ov : Value} {gg : List (List Int)} (h : BsI W0 wr base b6 ov gg) (hb : Below wr.heap.size wr wx) : BsI W0 wx base b6 ov gg :=
  ⟨h.sg.below hb, h.box.keep hb, h.bel.trans (hb.mono h.bel.size), h.hb, h.b6, Nat.le_trans h.sz hb.size⟩
theorem BsI.ne {W0 wr : World} {base b6 : Nat} {ov : Value} {gg : List (List Int)} (h : BsI W0 wr base b6 ov gg) : some b6 ≠ ov.ownBlock := fun e => by
  obtain ⟨_, vals, e1, _, ho, _⟩ := h.sg
  cases e1
  rcases ho.2 with ⟨rfl, _⟩ | ⟨k, cap, cur, rfl, _, hgg, _⟩
  · simp [Value.ownBlock] at e
  · simp [Value.ownBlock] at e
    subst e
    have h2 := h.box.blk
    rw [h2] at hgg
    simp only [Option.some.injEq, Obj.cells.injEq] at hgg
    exact absurd hgg.2.1 (by decide)
theorem BsI.push {W0 wc w7 : World} {base b6 : Nat} {ov v' rv : Value} {gg : List (List Int)} {s : List Int} {vals : List Value} (h : BsI W0 wc base b6 ov gg) (hl : vals.length = gg.length) (ho : wc.ownsRow base 36 1 ov gg.length vals) (hr : ∀ j, j < gg.length → Nums wc 2 .i64 (vals.getD j undef) (row gg j))
    (ho' : w7.ownsRow base 36 1 v' (gg.length + 1) (vals ++ [rv])) (hg : wc.grownBy w7 ov.ownBlock) (hn : Nums wc 2 .i64 rv s) : BsI W0 (w7.setCell ⟨b6, 0, none⟩ v') base b6 v' (gg ++ [s]) := by
  have hne := h.ne
  have hbx := h.box.grown hg hne
  have hsg : SG w7 base (.agg #[v']) (gg ++ [s]) := by
    refine ⟨v', vals ++ [rv], rfl, by simp [hl], by rw [List.length_append]; exact ho', fun j hj => ?_⟩
    rw [List.length_append, List.length_singleton] at hj
    by_cases hj2 : j < gg.length
    · rw [getD_append_left _ _ _ _ (by omega)]
      have e : row (gg ++ [s]) j = row gg j := by simp [row, List.getElem?_append_left hj2]
      rw [e]
      exact (hr j hj2).other ho hg (by decide)
    · obtain rfl : j = gg.length := by omega
      have e : row (gg ++ [s]) gg.length = s := by simp [row]
      rw [e, ← hl, getD_append_last]
      exact hn.other ho hg (by decide)
  exact ⟨hsg.setBox hbx _, hbx.set _, (below_grown h.bel ho hg h.hb h.bel.size).setCell h.b6 _, h.hb, h.b6, by rw [World.size_setCell]; exact Nat.le_trans h.sz hg.size⟩

set_option maxRecDepth 100000 in
set_option maxHeartbeats 4000000 in
theorem l2Beside_any (v z : Value) (g h : List (List Int)) (hok : GOk g) (hoh : GOk h) (w : World) (hg : Gr w v g) (hh : Gr w z h) :
    Calls Tryd.prog 88 #[v, z] w fun e w' => ∃ u, e = .returned u ∧ SG w' w.heap.size u (matG (g.length + h.length) (besE g.length (ofG g) (ofG h))) ∧ Below w.heap.size w w' := by
  have hg0 := hg
  have hh0 := hh
  obtain ⟨u, rfl, hr⟩ := hg
  obtain ⟨gp, gc, rfl, _⟩ := hr.shape
  obtain ⟨u', rfl, hr'⟩ := hh
  obtain ⟨hp, hc, rfl, _⟩ := hr'.shape
  obtain ⟨W0, hW0⟩ : ∃ W0, W0 = ((w.alloc (.cells #[.slice gp g.length gc] 29)).alloc (.cells #[.slice hp h.length hc] 29)).alloc (.cells #[.slice none 0 0] 29) := ⟨_, rfl⟩
  have hb0 : Below w.heap.size w W0 := by rw [hW0]; exact below_alloc3 _ _ _ _
  have hbg : Box W0 w.heap.size 29 (.slice gp g.length gc) := by rw [hW0]; exact ((Box.new _ _ _).alloc _).alloc _
  have hbh : Box W0 (w.heap.size + 1) 29 (.slice hp h.length hc) := by
    have := Box.new (w.alloc (.cells #[.slice gp g.length gc] 29)) (.slice hp h.length hc) 29
    rw [size_alloc] at this
    rw [hW0]; exact this.alloc _
  have hbn : Box W0 (w.heap.size + 1 + 1) 29 (.slice none 0 0) := by
    have := Box.new ((w.alloc (.cells #[.slice gp g.length gc] 29)).alloc (.cells #[.slice hp h.length hc] 29)) (.slice none 0 0) 29
    rw [size_alloc, size_alloc] at this
    rw [hW0]; exact this
  have HB0 := Lib.hid hb0
  have HBG := Lib.hid hbg
  have HBH := Lib.hid hbh
  have HBN := Lib.hid hbn
  have HG := Lib.hid (hg0.below hb0)
  have HH := Lib.hid (hh0.below hb0)
  have HRH := Lib.hid (hr'.below hb0)
  have sz0 : W0.heap.size = w.heap.size + 3 := by rw [hW0, size_alloc, size_alloc, size_alloc]
  have h16 := hok.le
  have h16' := hoh.le
  have HOK := Lib.hid hok
  have HOH := Lib.hid hoh
  have HRG := Lib.hid (gok_rowsN hok)
  have HRL := Lib.hid (gok_rowsN hoh)
  have cg0 := hbg.cell
  clear hr hr' hg0 hh0 hb0 hbg hbh hbn hok hoh
  go_enter Tryd.func88, Tryd.ntmps88
  go_upto_region 1 with fail
  rw [← hW0]
  clear hW0
  go_upto_region 3 with (first
    | (go_at_call 150; refine (l1CopyGraph_any _ g (by omega) (fun j => by have := HRG.out j; omega) _ (HG.out.below hb2)).mono ?_; rintro e w3 ⟨u3, rfl, hs3, hb3⟩; obtain ⟨p, c, rfl⟩ := hs3.shape)
    | (go_at_call 87; refine (l1Size_any _ g _ HG.out).mono ?_; rintro e w2 ⟨rfl, hb2⟩; have cg2 := hb2.at' cg0))
  have START : Hid (BsI W0 (w3.alloc (.cells #[.slice p g.length c] 29)) w2.heap.size w3.heap.size (.slice p g.length c) (g ++ movedN g.length h 0)) := Lib.hid
    ⟨by rw [show movedN g.length h 0 = [] from rfl, List.append_nil]; exact hs3.below (below_alloc _ _), Box.new _ _ _, (hb2.trans (hb3.mono hb2.size)).alloc (Nat.le_trans hb2.size hb3.size) _, hb2.size, Nat.le_trans hb2.size hb3.size, Nat.le_trans hb3.size (below_alloc _ _).size⟩
  generalize w2.heap.size = B2 at START
  generalize w3.heap.size = b6 at START
  clear hs3 hb3 hb2 cg0 cg2
  go_wp2_with fail
  go_loopw [7] (fun i wr => ∃ (k : Nat) (ov : Value), k ≤ h.length ∧ i = .int .i64 k ∧ Hid (BsI W0 wr B2 b6 ov (g ++ movedN g.length h k))) (fun i _ => h.length - (intOf i).toNat)
  case atStart => exact ⟨0, _, Nat.zero_le _, rfl, START⟩
  case round =>
    clear START
    obtain ⟨k, ov, hk, rfl, HI⟩ := hrel
    have hch := HI.out.bel.at (by omega) HBH.out.cell
    by_cases hlt : k < h.length
    · obtain ⟨b, o, rp, rc, hhp, hcell, hnums⟩ := (HRH.out.below HI.out.bel).get hlt
      subst hhp
      change wr.cell? _ = some (.slice rp (row h k).length rc) at hcell
      change Nums wr _ _ (.slice rp (row h k).length rc) (row h k) at hnums
      have hxr := Lib.hid (HOH.out.sets k hlt).1.1
      have hxl := HRL.out k
      have hms := Lib.hid (movedN_succ g.length h k)
      obtain ⟨xs, hxs⟩ : ∃ xs, xs = row h k := ⟨_, rfl⟩
      rw [← hxs] at hcell hnums hxr hxl hms
      have Hnums := Lib.hid hnums
      clear hxs hnums
      go_wp2_with (go_at_call 87; refine (l1Size_any _ h _ (HH.out.below HI.out.bel)).mono ?_; rintro e w4 ⟨rfl, hb4⟩; have HI4 := Lib.hid (HI.out.next hb4); have hcell4 := Lib.hid (hb4.at' hcell); have hch4 := Lib.hid (hb4.at' hch); have Hn4 := Lib.hid (Hnums.out.below hb4); clear hb4)
      clear hcell hch HI Hnums
      go_loopw [8, 9] (fun rv i' wx => ∃ j : Nat, j ≤ xs.length ∧ i' = .int .i64 j ∧ Hid (wx.ownsRow w4.heap.size 2 1 rv j (((xs.take j).map fun x => (g.length : Int) + x).map (Value.int .i64))) ∧ Hid (Below w4.heap.size w4 wx)) (fun _ i' _ => xs.length - (intOf i').toNat)
      case atStart => exact ⟨0, Nat.zero_le _, rfl, Lib.hid (by simpa using ownsRow_empty _ _ _), Lib.hid (below_alloc _ _)⟩
      case round =>
        obtain ⟨j, hj, rfl, HO, HB⟩ := hrel
        have hch5 := HB.out.at' hch4.out
        have hcell5 := HB.out.at' hcell4.out
        by_cases hjl : j < xs.length
        · obtain ⟨xb, xo, hrp, hcx⟩ := (Hn4.out.below HB.out).get hjl
          subst hrp
          have hx := hxr.out _ (List.getElem_mem hjl)
          have htk := Lib.hid (take_snoc xs j hjl)
          generalize xs[j] = x at hcx hx htk
          have hwr : IntKind.i64.wrap ((g.length : Int) + x) = (g.length : Int) + x := by rw [IntKind.wrap_i64]; omega
          have hown := HO.out
          have hsz := HB.out.size
          clear hx
          go_wp2_with (at_builtin; refine wpList_app1 ty_i64 rfl rfl rfl hown rfl rfl (by omega) hsz ?_; intro v' w5 hown' hg5 _)
          go_roundw
          case rel => exact ⟨j + 1, by omega, by go_num, Lib.hid (by rw [htk.out, List.map_append, List.map_append]; exact hown'), Lib.hid (below_grown HB.out hown hg5 (Nat.le_refl _) hsz)⟩
          case measure => simp [intOf]; omega
        · obtain rfl : j = xs.length := by omega
          have HI5 := Lib.hid (HI4.out.next HB.out)
          obtain ⟨_, vals, e1, hvl, hov, hvr⟩ := HI5.out.sg
          cases e1
          have hnr : Hid (Nums wr 2 .i64 _ (xs.map fun x => (g.length : Int) + x)) := Lib.hid (by
            have := HO.out
            rw [List.take_length] at this
            exact Nums.of_owns this (by simp) (by omega))
          obtain ⟨rvp, rvc, rfl⟩ := owns_shape HO.out
          have hc6 := HI5.out.box.cell
          have hglen : (g ++ movedN g.length h k).length ≤ 100 := by rw [List.length_append, movedN_length]; omega
          have Hvl := Lib.hid hvl
          have Hvr := Lib.hid hvr
          generalize hL : (g ++ movedN g.length h k).length = L at hov hc6 hglen hvl
          have HL := Lib.hid hL
          clear hvl hvr hL
          go_wp2_with (at_builtin; refine wpList_app1s ty_rows rfl rfl rfl hov rfl rfl (by omega) HI5.out.sz ?_; intro b7 c8 w7 hown7 hg7 _; have hbx7 := HI5.out.box.grown hg7 HI5.out.ne; have c7 := hbx7.cell; have f7 := hbx7.free)
          go_roundw
          case rel =>
            have hpush := HI5.out.push Hvl.out (by rw [HL.out]; exact hov) Hvr.out (by rw [HL.out]; exact hown7) hg7 hnr.out
            rw [List.append_assoc, ← hms.out] at hpush
            exact ⟨k + 1, _, by omega, by go_num, Lib.hid hpush⟩
          case measure => simp [intOf]; omega
    · obtain rfl : k = h.length := by omega
      obtain ⟨ovp, L, ovc, rfl⟩ : ∃ p L c, ov = .slice p L c := by
        obtain ⟨p, c, e⟩ := HI.out.sg.shape
        exact ⟨p, _, c, by simpa using e⟩
      have hbn2 := HBN.out.below HI.out.bel (by omega)
      go_wp2_with (go_at_call 87; refine (l1Size_any _ h _ (HH.out.below HI.out.bel)).mono ?_; rintro e w4 ⟨rfl, hb4⟩; have HI4 := Lib.hid (HI.out.next hb4); have hb4' := Lib.hid hb4; clear hb4; have hb5 := HI4.out.box.cell; have hbn := (hbn2.keep hb4'.out).cell; have hbf := (hbn2.keep hb4'.out).free)
      refine bodyPost_ret (v := .agg #[.slice ovp L ovc]) (by simp [results, Tryd.results88, go_sem, hbn]) rfl ⟨_, rfl, ?_, ?_⟩
      · have hs := (HI4.out.sg.setBox (hbn2.keep hb4'.out) (.slice ovp L ovc)).base (base' := w.heap.size) (by have := HI4.out.hb; omega)
        rw [bes_rows HOK.out HOH.out] at hs
        exact hs
      · exact (HB0.out.trans (HI4.out.bel.mono HB0.out.size)).setCell (by show w.heap.size ≤ w.heap.size + 1 + 1; omega) _

set_option maxRecDepth 100000 in
set_option maxHeartbeats 4000000 in
theorem specBeside_yes (v z : Value) (g h : List (List Int)) (hok : GOk g) (hoh : GOk h) (hle : g.length + h.length ≤ 16) (w : World) (hg : Gr w v g) (hh : Gr w z h) :
    Calls Tryd.prog 17 #[v, z] w fun e w' => ∃ u, e = .returned (.tuple #[u, .bool true]) ∧ SG w' w.heap.size u (matG (g.length + h.length) (besE g.length (ofG g) (ofG h))) ∧ Below w.heap.size w w' := by
  have hg0 := hg
  have hh0 := hh
  obtain ⟨u, rfl, hr⟩ := hg
  obtain ⟨gp, gc, rfl, _⟩ := hr.shape
  obtain ⟨u', rfl, hr'⟩ := hh
  obtain ⟨hp, hc, rfl, _⟩ := hr'.shape
  obtain ⟨W0, hW0⟩ : ∃ W0, W0 = ((w.alloc (.cells #[.slice gp g.length gc] 29)).alloc (.cells #[.slice hp h.length hc] 29)).alloc (.cells #[.slice none 0 0] 29) := ⟨_, rfl⟩
  have hb0 : Below w.heap.size w W0 := by rw [hW0]; exact below_alloc3 _ _ _ _
  have hbg : Box W0 w.heap.size 29 (.slice gp g.length gc) := by rw [hW0]; exact ((Box.new _ _ _).alloc _).alloc _
  have hbh : Box W0 (w.heap.size + 1) 29 (.slice hp h.length hc) := by
    have := Box.new (w.alloc (.cells #[.slice gp g.length gc] 29)) (.slice hp h.length hc) 29
    rw [size_alloc] at this
    rw [hW0]; exact this.alloc _
  have hbn : Box W0 (w.heap.size + 1 + 1) 29 (.slice none 0 0) := by
    have := Box.new ((w.alloc (.cells #[.slice gp g.length gc] 29)).alloc (.cells #[.slice hp h.length hc] 29)) (.slice none 0 0) 29
    rw [size_alloc, size_alloc] at this
    rw [hW0]; exact this
  have HB0 := Lib.hid hb0
  have HBG := Lib.hid hbg
  have HBH := Lib.hid hbh
  have HBN := Lib.hid hbn
  have HG := Lib.hid (hg0.below hb0)
  have HH := Lib.hid (hh0.below hb0)
  have sz0 : W0.heap.size = w.heap.size + 3 := by rw [hW0, size_alloc, size_alloc, size_alloc]
  have HOK := Lib.hid hok
  have HOH := Lib.hid hoh
  have hd := Lib.hid (dec_true hok)
  have hd' := Lib.hid (dec_true hoh)
  have h1 := hok.le
  have h2 := hoh.le
  have hwr : IntKind.i64.wrap ((g.length : Int) + (h.length : Int)) = (g.length : Int) + (h.length : Int) := by rw [IntKind.wrap_i64]; omega
  have hle' : ¬ 16 < (g.length : Int) + (h.length : Int) := by omega
  have cg0 := hbg.cell
  have ch0 := hbh.cell
  clear hr hr' hg0 hh0 hb0 hbg hbh hbn hok hoh
  go_enter Tryd.func17, Tryd.ntmps17
  go_upto_region 1 with fail
  rw [← hW0]
  clear hW0
  go_cut [21] (fun s wx => s = .bool false ∧ Below W0.heap.size W0 wx)
  case first =>
    go_region_held3 (fun w' => w'.cell? ⟨w.heap.size, 0, none⟩ = some (.slice gp g.length gc) ∧ w'.cell? ⟨w.heap.size + 1, 0, none⟩ = some (.slice hp h.length hc))
      (first | go_keep | exact ⟨cg0, ch0⟩ | exact ⟨BWD.at' cg0, BWD.at' ch0⟩ | exact ⟨BWC.at' cg0, BWC.at' ch0⟩ | exact ⟨BWB.at' cg0, BWB.at' ch0⟩ | exact ⟨BWA.at' cg0, BWA.at' ch0⟩)
      (first
        | (go_at_call 87; refine (l1Size_any _ h _ (HH.out.below BWC)).mono ?_; rintro e w5 ⟨rfl, hb5⟩; have BWD : Below W0.heap.size W0 w5 := BWC.trans (hb5.mono BWC.size); clear hb5)
        | (go_at_call 87; refine (l1Size_any _ g _ (HG.out.below BWB)).mono ?_; rintro e w4 ⟨rfl, hb4⟩; have BWC : Below W0.heap.size W0 w4 := BWB.trans (hb4.mono BWB.size); clear hb4)
        | (go_at_call 85; refine (specGraphOk_any _ h _ (HH.out.below BWA)).mono ?_; rintro e w3 ⟨he, hb3⟩; rw [hd'.out] at he; subst he; have BWB : Below W0.heap.size W0 w3 := BWA.trans (hb3.mono BWA.size); clear hb3)
        | (go_at_call 85; refine (specGraphOk_any _ g _ (HG.out.below (below_dN (Below.refl _ _) 1))).mono ?_; rintro e w2 ⟨he, hb2⟩; rw [hd.out] at he; subst he; have BWA : Below W0.heap.size W0 w2 := (below_dN (Below.refl _ _) 1).trans hb2; clear hb2))
    all_goals go_wp2
    all_goals go_meet
    all_goals exact ⟨congrArg Value.bool (decide_eq_false (by omega)), BWD⟩
  case rest =>
    obtain ⟨rfl, hbc⟩ := hcut
    have HBC := Lib.hid hbc
    have cg1 := hbc.at' cg0
    have ch1 := hbc.at' ch0
    clear hbc
    go_wp2_with (go_at_call 88; refine (l2Beside_any _ _ g h HOK.out HOH.out _ (HG.out.below HBC.out) (HH.out.below HBC.out)).mono ?_; rintro e w3 ⟨u3, rfl, hs3, hb3⟩; obtain ⟨p3, c3, rfl⟩ := hs3.shape; have hbn := (HBN.out.keep HBC.out).keep hb3; obtain ⟨hnc, hnf, hnl, hnB⟩ := hbn)
    have h0 := HB0.out.size
    have h2 := HBC.out.size
    refine bodyPost_ret (v := .tuple #[.agg #[.slice p3 (matG (g.length + h.length) (besE g.length (ofG g) (ofG h))).length c3], .bool true]) (by simp [results, Tryd.results17, go_sem, hnc]) rfl ⟨_, rfl, ?_, ?_⟩
    · exact (hs3.setBox ⟨hnc, hnf, hnl, hnB⟩ _).base (by omega)
    · exact ((HB0.out.trans (HBC.out.mono HB0.out.size)).trans (hb3.mono (by omega))).setCell (by show w.heap.size ≤ w.heap.size + 1 + 1; omega) _

end Go.Proofs.YtmakhapdlkbbnaaDoor
