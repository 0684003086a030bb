/- Walks: the reference's draws: a graph, bent sometimes (l1DrawAny; printed by wip/mkDrF.py). -/
import Derived.Test.YtkppbmfliejnmaaDoorSnQ34
namespace Go.Proofs.YtkppbmfliejnmaaDoor
open Go.RowKit

theorem gr_setBox {w : World} {b : Nat} {v x : Value} {g : List (List Int)} (h : Gr w v g) (hb : Box w b 29 x) (u : Value) : Gr (w.setCell ⟨b, 0, none⟩ u) v g := by
  obtain ⟨u0, rfl, hr⟩ := h
  exact ⟨u0, rfl, hr.setBox hb (by decide) (by decide) u⟩
/-- One row is put in the place of another: the rows read so. -/
theorem dg_put {wr w2 : World} {base ob c u : Nat} {g : List (List Int)} {rv : Value} {s : List Int} (h : DG wr base (.agg #[.slice (some ⟨ob, 0, none⟩) g.length c]) g) (hr : ∀ j, j < g.length → (row g j).length ≤ 1000) (hb : Below wr.heap.size wr w2) (hn : Nums w2 2 .i64 rv s) (hu : u < g.length) (hg : g.length ≤ 1000) :
    Gr (w2.setCell ⟨ob, u, none⟩ rv) (.agg #[.slice (some ⟨ob, 0, none⟩) (g.set u s).length c]) (g.set u s) ∧ w2.grownBy (w2.setCell ⟨ob, u, none⟩ rv) (some ob) := by
  obtain ⟨_, vals, h1, hl, ho, hrows⟩ := h
  cases h1
  have ho' := ownsRow_below ho hb
  obtain ⟨ho2, hg2⟩ := ho'.stored u rv
  refine ⟨⟨_, rfl, Rws.of_owned (vals.set u rv) (by simp [hl]) (by rw [List.length_set]; exact ho2) (by rw [List.length_set]; omega) fun j hj => ?_⟩, hg2⟩
  rw [List.length_set] at hj
  change Nums _ _ _ _ (row (g.set u s) j)
  rw [row_set _ _ _ _ hu]
  by_cases e : j = u
  · subst e
    rw [if_pos rfl]
    have : (vals.set j rv).getD j undef = rv := by simp [hl, hj]
    rw [this]
    exact hn.other ho' hg2 (by decide)
  · rw [if_neg e]
    have : (vals.set u rv).getD j undef = vals.getD j undef := by simp [show ¬ u = j from fun q => e q.symm]
    rw [this]
    exact ((Nums.of_owns (hrows.rows j hj) rfl (by have := hr j hj; omega)).below hb).other ho' hg2 (by decide)
theorem row_set_le {g : List (List Int)} {u m : Nat} {s : List Int} (hu : u < g.length) (h : ∀ j, (row g j).length ≤ m) (hs : s.length ≤ m) (j : Nat) : (row (g.set u s) j).length ≤ m := by
  rw [row_set _ _ _ _ hu]
  split
  · exact hs
  · exact h j

theorem box_ne_own {w : World} {b : Nat} {T : TypeId} {x : Value} (h : Box w b T x) {base : Nat} {E : TypeId} {size n : Nat} {v : Value} {xs : List Value} (ho : w.ownsRow base E size v n xs) (hE : E ≠ T) : some b ≠ v.ownBlock := fun e => by
  rcases ho.2 with ⟨rfl, _⟩ | ⟨k, cap, cur, rfl, _, hgg, _⟩
  · simp [Value.ownBlock] at e
  · simp [Value.ownBlock] at e
    subst e
    rw [h.blk] at hgg
    simp only [Option.some.injEq, Obj.cells.injEq] at hgg
    exact hE hgg.2.1.symm
/-- One row has grown: all rows read so. -/
theorem dg_app {w7 w8 : World} {base ob c v m : Nat} {g : List (List Int)} {vals xs : List Value} {rv nv : Value} {s : List Int} (hl : vals.length = g.length) (hov : w7.ownsRow base 33 1 (.slice (some ⟨ob, 0, none⟩) g.length c) g.length vals) (hD : Dis w7 base g.length vals g) (hrv : rv = vals.getD v undef)
    (hr : ∀ j, j < g.length → (row g j).length ≤ 1000) (hrow : w7.ownsRow base 2 1 rv m xs) (hg : w7.grownBy w8 rv.ownBlock) (hn : Nums w8 2 .i64 nv s) (hv : v < g.length) (hgl : g.length ≤ 1000) :
    Gr (w8.setCell ⟨ob, v, none⟩ nv) (.agg #[.slice (some ⟨ob, 0, none⟩) (g.set v s).length c]) (g.set v s) ∧ w8.grownBy (w8.setCell ⟨ob, v, none⟩ nv) (some ob) := by
  have ho' := ownsRow_other hov hrow hg (by decide)
  obtain ⟨ho2, hg2⟩ := ho'.stored v nv
  refine ⟨⟨_, rfl, Rws.of_owned (vals.set v nv) (by simp [hl]) (by rw [List.length_set]; exact ho2) (by rw [List.length_set]; omega) fun j hj => ?_⟩, hg2⟩
  rw [List.length_set] at hj
  change Nums _ _ _ _ (row (g.set v s) j)
  rw [row_set _ _ _ _ hv]
  by_cases e : j = v
  · subst e
    rw [if_pos rfl]
    have : (vals.set j nv).getD j undef = nv := by simp [hl, hj]
    rw [this]
    exact hn.other ho' hg2 (by decide)
  · rw [if_neg e]
    have : (vals.set v nv).getD j undef = vals.getD j undef := by simp [show ¬ v = j from fun q => e q.symm]
    rw [this]
    have hne : (vals.getD j undef).ownBlock = none ∨ (vals.getD j undef).ownBlock ≠ rv.ownBlock := by
      cases hb : (vals.getD j undef).ownBlock with
      | none => exact .inl rfl
      | some b =>
        refine .inr fun e2 => ?_
        rw [hrv] at e2
        exact hD.dis v j hv hj (fun q => e q.symm) b e2.symm hb
    have hk := (hD.rows j hj).kept hg hne
    exact (Nums.of_owns hk rfl (by have := hr j hj; omega)).other ho' hg2 (by decide)

set_option maxRecDepth 100000 in
set_option maxHeartbeats 8000000 in
theorem l1DrawAny_any (w0 : World) (cb : Nat) (bs : List Int) (w : World) (hc : Cur w0 w cb bs) :
    Calls Tryd.prog 198 #[.pointer (some ⟨cb, 0, none⟩)] w fun e w' => ∃ (u : Value) (g : List (List Int)), e = .returned u ∧ Gr w' u g ∧ g.length ≤ 17 ∧ (∀ j, (row g j).length ≤ 17) ∧ Cur w0 w' cb bs ∧ w.grownBy w' (some cb) := by
  have hcb := hc.cb_lt
  obtain ⟨w1, hw1⟩ : ∃ w1, w1 = w.alloc (.cells #[.slice none 0 0] 29) := ⟨_, rfl⟩
  have HR : Hid (Box w1 w.heap.size 29 (.slice none 0 0)) := Lib.hid (by rw [hw1]; exact Box.new _ _ _)
  have HB : Hid (Below w.heap.size w w1) := Lib.hid (by rw [hw1]; exact below_alloc _ _)
  have s1 : w1.heap.size = w.heap.size + 1 := by rw [hw1, size_alloc]
  have HC1 := Lib.hid (hc.keep HB.out)
  clear hc
  go_enter Tryd.func198, Tryd.ntmps198
  go_upto_region 1 with fail
  rw [← hw1]
  clear hw1
  go_upto_region 2 with (go_at_call 236; refine (l1Draw_any w0 cb bs _ HC1.out).mono ?_; rintro e w2 ⟨u, n, E, rfl, hn1, hn7, _, hs, hc2, hg2⟩; obtain ⟨p, c, rfl⟩ := hs.shape)
  obtain ⟨g, hgm⟩ : ∃ g, g = matG n E := ⟨_, rfl⟩
  have hgl : g.length = n := by rw [hgm, matG_length]
  have HRL : Hid (∀ j, (row g j).length ≤ 7) := Lib.hid (fun j => by rw [hgm]; exact Nat.le_trans (matG_row_le j) hn7)
  rw [← hgm] at hs ⊢
  have hg1 : 1 ≤ g.length := by omega
  have hg7 : g.length ≤ 7 := by omega
  obtain ⟨w3, hw3⟩ : ∃ w3, w3 = w2.alloc (.cells #[.slice p g.length c] 29) := ⟨_, rfl⟩
  rw [← hw3]
  have hb23 : Below w2.heap.size w2 w3 := by rw [hw3]; exact below_alloc _ _
  have HD3 := Lib.hid (hs.below hb23)
  have HC3 := Lib.hid (hc2.keep hb23)
  have HG3 := Lib.hid (grown_trans (grown_of_below HB.out _) (grown_trans hg2 (grown_of_below hb23 _)))
  have HX3 : Hid (Box w3 w2.heap.size 29 (.slice p g.length c)) := Lib.hid (by rw [hw3]; exact Box.new _ _ _)
  have HR3 := Lib.hid ((HR.out.cured HC1.out hg2 (by decide)).keep hb23)
  have hOW : ∀ k, (Value.slice p g.length c).ownBlock = some k → w.heap.size + 1 ≤ k ∧ k < w2.heap.size := fun k hk => by
    have := hs.lt k hk
    omega
  have HOW := Lib.hid hOW
  have hb5 : w.heap.size + 1 ≤ w2.heap.size := by have := hg2.size; omega
  generalize w2.heap.size = b5 at *
  clear hgm hgl hw3 hb23 hs hc2 hg2 HC1 HR hn1 hn7 hOW
  go_upto_if 8 with (go_at_call 129; refine (l1Once_any w0 cb bs 12 (by decide) _ HC3.out).mono ?_; rintro e w4 ⟨b, rfl, hc4, hg4⟩; have HC4 := Lib.hid hc4; have HG4 := Lib.hid (grown_trans HG3.out hg4); have HD4 := Lib.hid (HD3.out.cured HC3.out hg4); have HX4 := Lib.hid (HX3.out.cured HC3.out hg4 (by decide)); have HR4 := Lib.hid (HR3.out.cured HC3.out hg4 (by decide)); clear hc4 hg4)
  have HGR4 := Lib.hid (HD4.out.gr (by omega) (fun j _ => Nat.le_trans (HRL.out j) (by decide)))
  have cx4 := HX4.out.cell
  clear HD3 HC3 HG3 HX3 HR3
  cases b
  · -- as it is
    obtain ⟨nc, nf, nl, nB⟩ := id HR4.out
    go_wp2
    refine bodyPost_ret (v := .agg #[.slice p g.length c]) (by simp [results, Tryd.results198, go_sem, nc]) rfl ⟨_, g, rfl, ?_, ?_, ?_, ?_, ?_⟩
    · exact gr_setBox HGR4.out HR4.out _
    · omega
    · exact fun j => Nat.le_trans (HRL.out j) (by decide)
    · exact (HC4.out).setCell hcb _
    · exact grown_newD (HG4.out) (Nat.le_refl _) _
  · obtain ⟨ob, rfl⟩ : ∃ ob, p = some ⟨ob, 0, none⟩ := by
      obtain ⟨_, vals, e1, hl, ho, _⟩ := HD4.out
      cases e1
      rcases ho.2 with ⟨_, h0⟩ | ⟨b, cc, _, h1, _⟩
      · omega
      · simp only [Value.slice.injEq] at h1
        exact ⟨b, h1.1⟩
    have hob := HOW.out ob rfl
    go_upto_region 4 with (go_at_call 148; refine (l1Below_any w0 cb bs g.length (by omega) _ HC4.out).mono ?_; rintro e w5 ⟨v, rfl, hv, _, hc5, hg5⟩; have hvl := hv (by omega); have HC5 := Lib.hid hc5; have HG5 := Lib.hid (grown_trans HG4.out hg5); have HD5 := Lib.hid (HD4.out.cured HC4.out hg5); have HX5 := Lib.hid (HX4.out.cured HC4.out hg5 (by decide)); have HR5 := Lib.hid (HR4.out.cured HC4.out hg5 (by decide)); clear hc5 hg5 hv)
    have hvg : v < g.length := by omega
    clear HD4 HC4 HG4 HX4 HR4 HGR4 cx4
    go_cut [15] (fun x wx => ∃ k : Nat, x = .int .i64 (k : Int) ∧ k < 5 ∧ Cur w0 wx cb bs ∧ w5.grownBy wx (some cb))
    case first =>
      go_wp2_with (go_at_call 148; refine (l1Below_any w0 cb bs 5 (by decide) _ HC5.out).mono ?_; rintro e w6 ⟨k, rfl, hk, _, hc6, hg6⟩; have hk5 := hk (by decide))
      go_meet
      exact ⟨k, rfl, by omega, hc6, hg6⟩
    case rest =>
    obtain ⟨k, rfl, hk, hc6, hg6⟩ := hcut
    have HC6 := Lib.hid hc6
    have HG6 := Lib.hid (grown_trans HG5.out hg6)
    have HD6 := Lib.hid (HD5.out.cured HC5.out hg6)
    have HX6 := Lib.hid (HX5.out.cured HC5.out hg6 (by decide))
    have HR6 := Lib.hid (HR5.out.cured HC5.out hg6 (by decide))
    clear hc6 hg6 HC5 HG5 HD5 HX5 HR5
    have s6 := HG6.out.size
    have hob6 : ob < wc.heap.size := by
      obtain ⟨_, vals, e1, hl, ho, _⟩ := HD6.out
      cases e1
      exact (ho.lt ob rfl).2
    have hb56 := HX6.out.lt
    have cx6 := HX6.out.cell
    have fx6 := HX6.out.free
    have hcv : ∃ rv, wc.cell? ⟨ob, v, none⟩ = some rv ∧ wc.frozen? ⟨ob, v, none⟩ = false := by
      obtain ⟨_, vals, e1, hl, ho, _⟩ := HD6.out
      cases e1
      have h1 := ho.cellAt v (by omega)
      rw [get_getD vals v undef (by omega)] at h1
      exact ⟨_, h1, ho.frozenAt v⟩
    by_cases hk2 : k = 2
    · subst hk2
      go_upto_region 15 with (first
        | (go_at_call 157; refine (l1EmptyD_any _ (16 + r) (by omega) (by omega) _).mono ?_; rintro e w8 ⟨u, rfl, hs8, hb8⟩; obtain ⟨p8, c8, rfl⟩ := hs8.shape; rw [List.length_replicate] at hs8 ⊢; have hx8 := HX7.out.keep hb8; have cx8 := hx8.cell; have fx8 := hx8.free)
        | (go_at_call 148; refine (l1Below_any w0 cb bs 2 (by decide) _ HC6.out).mono ?_; rintro e w7 ⟨r, rfl, hr, _, hc7, hg7⟩; have hr2 := hr (by decide); have HC7 := Lib.hid hc7; have HG7 := Lib.hid (grown_trans HG6.out hg7); have HX7 := Lib.hid (HX6.out.cured HC6.out hg7 (by decide)); have HR7 := Lib.hid (HR6.out.cured HC6.out hg7 (by decide)); (have hwr : IntKind.i64.wrap ((16 : Int) + (r : Int)) = (16 : Int) + (r : Int) := (by rw [IntKind.wrap_i64]; omega)); clear hc7 hg7 hr))
      have hx9 := hx8.set (.slice p8 (16 + r) c8)
      have HGR9 := Lib.hid (gr_setBox (hs8.gr (by rw [List.length_replicate]; omega) (fun j hj => by simp at hj; simp [row, hj])) hx8 (.slice p8 (16 + r) c8))
      have HC9 := Lib.hid ((HC7.out.keep hb8).setCell (show cb < b5 by omega) (.slice p8 (16 + r) c8) (i := 0))
      have HG9 := Lib.hid (grown_newD (grown_trans HG7.out (grown_of_below hb8 _)) (show w.heap.size ≤ b5 by omega) (.slice p8 (16 + r) c8) (i := 0))
      have HR9 : Hid (Box (w8.setCell ⟨b5, 0, none⟩ (.slice p8 (16 + r) c8)) w.heap.size 29 (.slice none 0 0)) := Lib.hid ((HR7.out.keep hb8).setOther (by show w.heap.size ≠ b5; omega) _)
      have HX9 := Lib.hid hx9
      obtain ⟨w9, hw9⟩ : ∃ w9, w9 = w8.setCell ⟨b5, 0, none⟩ (.slice p8 (16 + r) c8) := ⟨_, rfl⟩
      rw [← hw9] at HGR9 HC9 HG9 HR9 HX9 ⊢
      have cx9 := HX9.out.cell
      clear hw9 hx9 hx8 cx8 fx8 hs8 hb8 cx6 fx6
      obtain ⟨nc, nf, nl, nB⟩ := id HR9.out
      go_wp2
      refine bodyPost_ret (v := .agg #[.slice p8 (16 + r) c8]) (by simp [results, Tryd.results198, go_sem, nc]) rfl ⟨_, List.replicate (16 + r) [], rfl, ?_, ?_, ?_, ?_, ?_⟩
      · exact gr_setBox HGR9.out HR9.out _
      · rw [List.length_replicate]; omega
      · exact fun j => by by_cases hj : j < 16 + r <;> simp [row, hj]
      · exact (HC9.out).setCell hcb _
      · exact grown_newD (HG9.out) (Nat.le_refl _) _
    · by_cases hk3 : k = 3
      · subst hk3
        go_upto_region 15 with fail
        have HGR9 : Hid (Gr (wc.setCell ⟨b5, 0, none⟩ (.slice none 0 0)) (.agg #[.slice none 0 0]) []) := Lib.hid ⟨_, rfl, ⟨[], rfl, ⟨none, 0, rfl, fun _ => ⟨rfl, rfl⟩, Nat.le_refl _, by decide, .inl rfl⟩, fun j hj => by simp at hj⟩⟩
        have HC9 := Lib.hid (HC6.out.setCell (show cb < b5 by omega) (.slice none 0 0) (i := 0))
        have HG9 := Lib.hid (grown_newD HG6.out (show w.heap.size ≤ b5 by omega) (.slice none 0 0) (i := 0))
        have HR9 : Hid (Box (wc.setCell ⟨b5, 0, none⟩ (.slice none 0 0)) w.heap.size 29 (.slice none 0 0)) := Lib.hid (HR6.out.setOther (by show w.heap.size ≠ b5; omega) _)
        have HX9 := Lib.hid (HX6.out.set (.slice none 0 0))
        obtain ⟨w9, hw9⟩ : ∃ w9, w9 = wc.setCell ⟨b5, 0, none⟩ (.slice none 0 0) := ⟨_, rfl⟩
        rw [← hw9] at HGR9 HC9 HG9 HR9 HX9 ⊢
        have cx9 := HX9.out.cell
        clear hw9 cx6 fx6
        obtain ⟨nc, nf, nl, nB⟩ := id HR9.out
        go_wp2
        refine bodyPost_ret (v := .agg #[.slice none 0 0]) (by simp [results, Tryd.results198, go_sem, nc]) rfl ⟨_, [], rfl, ?_, ?_, ?_, ?_, ?_⟩
        · exact gr_setBox HGR9.out HR9.out _
        · simp
        · exact fun j => by simp [row]
        · exact (HC9.out).setCell hcb _
        · exact grown_newD (HG9.out) (Nat.le_refl _) _
      · by_cases hk1 : k = 1
        · subst hk1
          have ha := below_alloc wc (.cells #[.int .i64 (v : Int)] 2)
          obtain ⟨rv, hcell, hfr⟩ := hcv
          have hcell2 := ha.at' hcell
          have hfr2 := (ha.frozen (p := ⟨ob, v, none⟩) hob6).trans hfr
          have cx7 := ha.at' cx6
          have HN : Hid (Nums (wc.alloc (.cells #[.int .i64 (v : Int)] 2)) 2 .i64 (.slice (some ⟨wc.heap.size, 0, none⟩) 1 1) [(v : Int)]) := Lib.hid (lit_nums wc [(v : Int)] (by simp))
          have HPUT := Lib.hid (dg_put HD6.out (fun j _ => Nat.le_trans (HRL.out j) (by decide)) ha HN.out hvg (by omega))
          have HC7 := Lib.hid ((HC6.out.keep ha).over HPUT.out.2 (fun q hq => by cases hq; omega))
          have HG7 := Lib.hid (grown_over (grown_trans HG6.out (grown_of_below ha _)) HPUT.out.2 (fun q hq => by cases hq; omega))
          have HR7 := Lib.hid ((HR6.out.keep ha).grown HPUT.out.2 (fun e => by have e2 : w.heap.size = ob := (by simpa using e); omega))
          have HX7 := Lib.hid ((HX6.out.keep ha).grown HPUT.out.2 (fun e => by have e2 : b5 = ob := (by simpa using e); omega))
          have HGR7 := Lib.hid HPUT.out.1
          rw [List.length_set] at HGR7
          clear HPUT
          go_upto_region 15 with fail
          obtain ⟨w9, hw9⟩ : ∃ w9, w9 = (wc.alloc (.cells #[.int .i64 (v : Int)] 2)).setCell ⟨ob, v, none⟩ (.slice (some ⟨wc.heap.size, 0, none⟩) 1 1) := ⟨_, rfl⟩
          have hw8 := hw9
          rw [World.setCell_alloc_past _ _ _ _ hob6] at hw8
          rw [← hw8]
          rw [← hw9] at HC7 HG7 HR7 HX7 HGR7
          have cx9 := HX7.out.cell
          clear hw9 hw8 cx6 fx6 cx7 hcell hcell2 hfr hfr2
          obtain ⟨nc, nf, nl, nB⟩ := id HR7.out
          go_wp2
          refine bodyPost_ret (v := .agg #[.slice (some ⟨ob, 0, none⟩) g.length c]) (by simp [results, Tryd.results198, go_sem, nc]) rfl ⟨_, g.set v [(v : Int)], rfl, ?_, ?_, ?_, ?_, ?_⟩
          · exact gr_setBox HGR7.out HR7.out _
          · rw [List.length_set]; omega
          · exact row_set_le hvg (fun j => Nat.le_trans (HRL.out j) (by decide)) (by simp)
          · exact (HC7.out).setCell hcb _
          · exact grown_newD (HG7.out) (Nat.le_refl _) _
        · by_cases hk4 : k = 4
          · subst hk4
            have ha := below_alloc wc (.cells #[] 2)
            obtain ⟨rv, hcell, hfr⟩ := hcv
            have hcell2 := ha.at' hcell
            have hfr2 := (ha.frozen (p := ⟨ob, v, none⟩) hob6).trans hfr
            have cx7 := ha.at' cx6
            have HN : Hid (Nums (wc.alloc (.cells #[] 2)) 2 .i64 (.slice (some ⟨wc.heap.size, 0, none⟩) 0 0) []) := Lib.hid (lit_nums wc [] (by simp))
            have HPUT := Lib.hid (dg_put HD6.out (fun j _ => Nat.le_trans (HRL.out j) (by decide)) ha HN.out hvg (by omega))
            have HC7 := Lib.hid ((HC6.out.keep ha).over HPUT.out.2 (fun q hq => by cases hq; omega))
            have HG7 := Lib.hid (grown_over (grown_trans HG6.out (grown_of_below ha _)) HPUT.out.2 (fun q hq => by cases hq; omega))
            have HR7 := Lib.hid ((HR6.out.keep ha).grown HPUT.out.2 (fun e => by have e2 : w.heap.size = ob := (by simpa using e); omega))
            have HX7 := Lib.hid ((HX6.out.keep ha).grown HPUT.out.2 (fun e => by have e2 : b5 = ob := (by simpa using e); omega))
            have HGR7 := Lib.hid HPUT.out.1
            rw [List.length_set] at HGR7
            clear HPUT
            go_upto_region 15 with fail
            obtain ⟨w9, hw9⟩ : ∃ w9, w9 = (wc.alloc (.cells #[] 2)).setCell ⟨ob, v, none⟩ (.slice (some ⟨wc.heap.size, 0, none⟩) 0 0) := ⟨_, rfl⟩
            have hw8 := hw9
            rw [World.setCell_alloc_past _ _ _ _ hob6] at hw8
            rw [← hw8]
            rw [← hw9] at HC7 HG7 HR7 HX7 HGR7
            have cx9 := HX7.out.cell
            clear hw9 hw8 cx6 fx6 cx7 hcell hcell2 hfr hfr2
            obtain ⟨nc, nf, nl, nB⟩ := id HR7.out
            go_wp2
            refine bodyPost_ret (v := .agg #[.slice (some ⟨ob, 0, none⟩) g.length c]) (by simp [results, Tryd.results198, go_sem, nc]) rfl ⟨_, g.set v [], rfl, ?_, ?_, ?_, ?_, ?_⟩
            · exact gr_setBox HGR7.out HR7.out _
            · rw [List.length_set]; omega
            · exact row_set_le hvg (fun j => Nat.le_trans (HRL.out j) (by decide)) (by simp)
            · exact (HC7.out).setCell hcb _
            · exact grown_newD (HG7.out) (Nat.le_refl _) _
          · obtain rfl : k = 0 := by omega
            clear hcv hk hk1 hk2 hk3 hk4
            have Hm := HRL.out v
            obtain ⟨_, vals, e1, hvl, hov, hvr⟩ := id HD6.out
            cases e1
            have hrow := hvr.rows v hvg
            have hcv := hov.cellAt v (by omega)
            rw [get_getD vals v undef (by omega)] at hcv
            have hfv := hov.frozenAt v
            obtain ⟨m, hm⟩ : ∃ m, m = (row g v).length := ⟨_, rfl⟩
            rw [← hm] at hrow Hm
            obtain ⟨rv, hrv⟩ : ∃ rv, rv = vals.getD v undef := ⟨_, rfl⟩
            rw [← hrv] at hrow hcv
            have hrlt := hrow.lt
            have HROWS := Lib.hid hvr
            have HVL := Lib.hid hvl
            have HRV := Lib.hid hrv
            have HM := Lib.hid hm
            have HOV := Lib.hid hov
            have HROW := Lib.hid hrow
            have HLT := Lib.hid hrlt
            clear hvl hov hvr hrow hrv hrlt hm
            go_upto_region 6 with fail
            go_region_law (first
              | (go_simp; go_at_call 151; refine (l1Num_any w0 cb bs 16 (by decide) (by decide) _ (HC6.out.keep (below_dN (Below.refl _ _) 1))).mono ?_; rintro e w7 ⟨z, rfl, hc7, hg7⟩; have HC7 := Lib.hid hc7; have HG7 : Hid (wc.grownBy w7 (some cb)) := Lib.hid (grown_trans (grown_of_below (below_dN (Below.refl _ _) 1) _) hg7); have hrow7 := ownsRow_cured HC6.out HG7.out (by decide) HROW.out; have hov7 := ownsRow_cured HC6.out HG7.out (by decide) HOV.out; have cx7 := (HX6.out.cured HC6.out HG7.out (by decide)).cell; have cv7 : w7.cell? ⟨ob, v, none⟩ = some rv := (by have h9 := hov7.cellAt v (by omega); rw [get_getD vals v undef (by have := HVL.out; omega), ← HRV.out] at h9; exact h9); have fv7 := hov7.frozenAt v; have cx7a := fun o => (below_alloc w7 o).at' cx7; have cv7a := fun o => (below_alloc w7 o).at' cv7; have s7 := HG7.out.size; clear hc7 hg7)
              | (refine step_app1s ty_i64 rfl rfl rfl hrow7 rfl rfl (by omega) (by omega) ?_; intro b8 c8 w8 hown8 hg8; have hx8 := (HX6.out.cured HC6.out HG7.out (by decide)).grown hg8 (box_ne_own (HX6.out.cured HC6.out HG7.out (by decide)) hrow7 (by decide)); have cx8 := hx8.cell; have hov8 := ownsRow_other hov7 hrow7 hg8 (by decide); have cv8 : w8.cell? ⟨ob, v, none⟩ = some rv := (by have h9 := hov8.cellAt v (by omega); rw [get_getD vals v undef (by have := HVL.out; omega), ← HRV.out] at h9; exact h9); have fv8 := hov8.frozenAt v))
            all_goals go_upto_region 15 with fail
            all_goals
              have hcbk : ∀ q, rv.ownBlock = some q → cb < q := fun q hq => by have := (hrow7.lt q hq).1; omega
              have hwk : ∀ q, rv.ownBlock = some q → w.heap.size < q := fun q hq => by have := (hrow7.lt q hq).1; omega
              have hDc : Dis w7 w1.heap.size g.length vals g := ⟨fun j hj => ownsRow_cured HC6.out HG7.out (by decide) (HROWS.out.rows j hj), HROWS.out.dis⟩
              have hnew : Nums w8 2 .i64 (.slice (some ⟨b8, 0, none⟩) (m + 1) c8) (row g v ++ [z]) := Nums.of_owns (by rw [List.map_append]; exact hown8) (by rw [List.length_append, List.length_singleton, HM.out]) (by omega)
              have HPUT := Lib.hid (dg_app (by have := HVL.out; exact this) hov7 hDc HRV.out (fun j _ => Nat.le_trans (HRL.out j) (by decide)) hrow7 hg8 hnew hvg (by omega))
              have HC8 := Lib.hid ((HC7.out.over hg8 hcbk).over HPUT.out.2 (fun q hq => by cases hq; omega))
              have HG8 := Lib.hid (grown_over (grown_over (grown_trans HG6.out HG7.out) hg8 (fun q hq => by have := hwk q hq; omega)) HPUT.out.2 (fun q hq => by cases hq; omega))
              have HR8 := Lib.hid (((HR6.out.cured HC6.out HG7.out (by decide)).grown hg8 (fun e => by have := hwk _ e.symm; omega)).grown HPUT.out.2 (fun e => by have e2 : w.heap.size = ob := (by simpa using e); omega))
              have HX8 := Lib.hid (hx8.grown HPUT.out.2 (fun e => by have e2 : b5 = ob := (by simpa using e); omega))
              have HGR8 := Lib.hid HPUT.out.1
              rw [List.length_set] at HGR8
              obtain ⟨w9, hw9⟩ : ∃ w9, w9 = w8.setCell ⟨ob, v, none⟩ (.slice (some ⟨b8, 0, none⟩) (m + 1) c8) := ⟨_, rfl⟩
              rw [← hw9] at HC8 HG8 HR8 HX8 HGR8 ⊢
              have cx9 := HX8.out.cell
              clear hw9 HPUT cx8 cv8 fv8 hov8 hx8 hnew hDc hown8 hg8 hrow7 hov7 cx7 cv7 fv7 cx7a cv7a cx6 fx6 hcv hfv
              obtain ⟨nc, nf, nl, nB⟩ := id HR8.out
              go_wp2
              refine bodyPost_ret (v := .agg #[.slice (some ⟨ob, 0, none⟩) g.length c]) (by simp [results, Tryd.results198, go_sem, nc]) rfl ⟨_, g.set v (row g v ++ [z]), rfl, ?_, ?_, ?_, ?_, ?_⟩
              · exact gr_setBox HGR8.out HR8.out _
              · rw [List.length_set]; omega
              · exact row_set_le hvg (fun j => Nat.le_trans (HRL.out j) (by decide)) (by rw [List.length_append, List.length_singleton]; have := HRL.out v; omega)
              · exact (HC8.out).setCell hcb _
              · exact grown_newD (HG8.out) (Nat.le_refl _) _

end Go.Proofs.YtkppbmfliejnmaaDoor
