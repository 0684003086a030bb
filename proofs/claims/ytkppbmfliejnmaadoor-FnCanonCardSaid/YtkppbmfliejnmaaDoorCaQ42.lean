/- Walk: the draw of two graphs. -/
import Derived.Test.YtkppbmfliejnmaaDoorCaQ39
import Derived.Test.YtkppbmfliejnmaaDoorCaQ41
import Derived.Test.YtkppbmfliejnmaaDoorCaQ21
namespace Go.Proofs.YtkppbmfliejnmaaDoor
open Go.RowKit

theorem box_far {w : World} {b b' : Nat} {T : TypeId} {v : Value} (h : Box w b T v) (hn : b ≠ b') (u : Value) : Box (w.setCell ⟨b', 0, none⟩ u) b T v :=
  .of ((Below.heap_setCell _ _ _ _ hn).trans h.blk)

set_option maxRecDepth 100000 in
set_option maxHeartbeats 8000000 in
theorem drawAlikeIn_any (v : Value) (bs : List Int) (hl : bs.length ≤ 4096) (w : World) (ha : ArgB w v bs) :
    Calls Tryd.prog 43 #[v] w fun e w' => ∃ (p q : Option Addr) (c d : Nat) (a b : List (List Int)), e = .returned (.tuple #[.agg #[.slice p a.length c], .agg #[.slice q b.length d]]) ∧ Gr w' (.agg #[.slice p a.length c]) a ∧ Gr w' (.agg #[.slice q b.length d]) b ∧ Below w.heap.size w w' := by
  obtain ⟨p, c, e0, _⟩ := id ha
  subst e0
  obtain ⟨W0, hW0, hbA, SZ0, B0, B1⟩ := two_boxesC w (.slice none 0 0) (.slice none 0 0) 29 29
  have HBA := Lib.hid hbA
  have HA := Lib.hid (ha.below hbA)
  have HX0 := Lib.hid B0
  have HX1 := Lib.hid B1
  clear ha hbA B0 B1
  go_enter Tryd.func43, Tryd.ntmps43
  go_upto_region 1 with fail
  rw [← hW0]
  clear hW0
  go_upto_region 3 with (first
    | (go_at_call 127; refine (l4Draw_any W0 cb bs _ HC1.out).mono ?_; rintro e w2 ⟨gp, gc, a, rfl, hga, hal, har, hc2, hg2⟩; have HC2 := Lib.hid hc2; have HG2 := Lib.hid hga; have HY0 := Lib.hid ((HX0.out.keep HB1.out).cured HC1.out hg2 (by decide)); have HY1 := Lib.hid ((HX1.out.keep HB1.out).cured HC1.out hg2 (by decide)); clear hc2 hga hg2)
    | (go_at_call 126; refine (l1New_any _ bs hl _ HA.out).mono ?_; rintro e w1 ⟨cb, rfl, hc1, hb1⟩; have HC1 := Lib.hid hc1; have HB1 := Lib.hid hb1; clear hc1 hb1))
  obtain ⟨w3, hw3⟩ : ∃ w3, w3 = w2.alloc (.cells #[.slice gp a.length gc] 29) := ⟨_, rfl⟩
  rw [← hw3]
  have hba : Below w2.heap.size w2 w3 := by rw [hw3]; exact below_alloc _ _
  have HX3 : Hid (Box w3 w2.heap.size 29 (.slice gp a.length gc)) := Lib.hid (by rw [hw3]; exact Box.new _ _ _)
  have HG3 := Lib.hid (HG2.out.below hba)
  have HC3 := Lib.hid (HC2.out.keep hba)
  have HZ0 := Lib.hid (HY0.out.keep hba)
  have HZ1 := Lib.hid (HY1.out.keep hba)
  have c3 := HX3.out.cell
  obtain ⟨bx, hbx⟩ : ∃ bx, bx = w2.heap.size := ⟨_, rfl⟩
  rw [← hbx] at HX3 c3 ⊢
  have hbxW : W0.heap.size ≤ bx := by rw [hbx]; exact HC2.out.bel.size
  have hcb3 := HC3.out.cb_lt
  have hcbW := HC2.out.cb_lt
  rw [← hbx] at hcbW
  clear hw3 hba HC2 HG2 HY0 HY1 HC1 HB1 hbx
  have hbxl := HX3.out.lt
  go_cut [6, 7] (fun s t wx => ∃ (b6 : Nat) (q : Option Addr) (d : Nat) (b : List (List Int)) (ok : Bool), s = .pointer (some ⟨b6, 0, none⟩) ∧ t = .bool ok ∧ w3.heap.size ≤ b6 ∧ Hid (Box wx b6 29 (.slice q b.length d)) ∧ Hid (Gr wx (.agg #[.slice q b.length d]) b) ∧ Hid (Cur W0 wx cb bs) ∧ Hid (w3.grownBy wx (some cb)))
  case first =>
    go_region_held3 (fun w' => w'.cell? ⟨bx, 0, none⟩ = some (.slice gp a.length gc))
      (first | exact c5 | exact c4 | exact c3 | exact (World.cell?_setCell_far _ _ _ _ (by show w3.heap.size ≠ bx; omega)).trans c5 | exact (World.cell?_setCell_far _ _ _ _ (by show w4.heap.size ≠ bx; omega)).trans c5 | go_keep)
      (first
        | (have HZ := B6a; go_at_call 46; refine (specRenamed_any _ _ a o _ (HG4.out.below (Below.refl w4.heap.size w4)) (HO4.out.below (Below.refl w4.heap.size w4))).mono ?_; rintro e w5 ⟨ru, gb, ok, rfl, hrs, hsg, hbl, hbr, hb5⟩; have BW5 : Below w4.heap.size w4 w5 := ((Below.refl w4.heap.size w4)).trans (hb5.mono ((Below.refl w4.heap.size w4)).size); have HSB := Lib.hid hsg; obtain ⟨rp, rc, rfl⟩ := hsg.shape; have HGB : Hid (Gr w5 (.agg #[.slice rp gb.length rc]) gb) := Lib.hid (HSB.out.gr (by omega)); have HC5 := Lib.hid (HC4.out.keep BW5); have HW5 : Hid (w3.grownBy w5 (some cb)) := Lib.hid (grown_trans HW4.out (grown_of_below BW5 _)); have c5 := BW5.at' c4; have B6 := Lib.hid (B6a.out.keep BW5); obtain ⟨nc, nf, nl, nB⟩ := id B6.out; clear hrs hsg hb5)
        | (go_at_call 46; refine (specRenamed_any _ _ a o _ (HG4.out.below (below_alloc w4 (.cells #[.slice none 0 0] 29))) (HO4.out.below (below_alloc w4 (.cells #[.slice none 0 0] 29)))).mono ?_; rintro e w5 ⟨ru, gb, ok, rfl, hrs, hsg, hbl, hbr, hb5⟩; have BW5 : Below w4.heap.size w4 w5 := ((below_alloc w4 (.cells #[.slice none 0 0] 29))).trans (hb5.mono ((below_alloc w4 (.cells #[.slice none 0 0] 29))).size); have HSB := Lib.hid hsg; obtain ⟨rp, rc, rfl⟩ := hsg.shape; have HGB : Hid (Gr w5 (.agg #[.slice rp gb.length rc]) gb) := Lib.hid (HSB.out.gr (by omega)); have HC5 := Lib.hid (HC4.out.keep BW5); have HW5 : Hid (w3.grownBy w5 (some cb)) := Lib.hid (grown_trans HW4.out (grown_of_below BW5 _)); have c5 := BW5.at' c4; have B6 : Hid (Box w5 w4.heap.size 29 (.slice none 0 0)) := Lib.hid ((Box.new w4 (.slice none 0 0) 29).keep hb5); obtain ⟨nc, nf, nl, nB⟩ := id B6.out; clear hrs hsg hb5)
        | (go_at_call 46; refine (specRenamed_any _ _ a o _ (HG4.out.below (Below.refl w4.heap.size w4)) (HO4.out.below (Below.refl w4.heap.size w4))).mono ?_; rintro e w5 ⟨ru, gb, ok, rfl, hrs, hsg, hbl, hbr, hb5⟩; have BW5 : Below w4.heap.size w4 w5 := ((Below.refl w4.heap.size w4)).trans (hb5.mono ((Below.refl w4.heap.size w4)).size); have HSB := Lib.hid hsg; obtain ⟨rp, rc, rfl⟩ := hsg.shape; have HGB : Hid (Gr w5 (.agg #[.slice rp gb.length rc]) gb) := Lib.hid (HSB.out.gr (by omega)); have HC5 := Lib.hid (HC4.out.keep BW5); have HW5 : Hid (w3.grownBy w5 (some cb)) := Lib.hid (grown_trans HW4.out (grown_of_below BW5 _)); have c5 := BW5.at' c4; clear hrs hsg hb5)
        | (go_at_call 128; refine (l1DrawOrder_any W0 cb bs _ a hal _ (HC3.out.keep (below_dN (below_alloc w3 (.cells #[.slice none 0 0] 29)) 1)) (HG3.out.below (below_dN (below_alloc w3 (.cells #[.slice none 0 0] 29)) 1))).mono ?_; rintro e w4 ⟨ov, o, rfl, hno, hol, hc4, hg4⟩; have HD4 := Lib.hid (HC3.out.keep (below_dN (below_alloc w3 (.cells #[.slice none 0 0] 29)) 1)); have HC4 := Lib.hid hc4; have HG4 := Lib.hid ((HG3.out.below (below_dN (below_alloc w3 (.cells #[.slice none 0 0] 29)) 1)).curedC HD4.out hg4); have HX4 := Lib.hid ((HX3.out.keep (below_dN (below_alloc w3 (.cells #[.slice none 0 0] 29)) 1)).cured HD4.out hg4 (by decide)); have c4 := HX4.out.cell; have HW4 : Hid (w3.grownBy w4 (some cb)) := Lib.hid (grown_trans (grown_of_below (below_dN (below_alloc w3 (.cells #[.slice none 0 0] 29)) 1) _) hg4); have hz4 : w3.heap.size ≤ w4.heap.size := HW4.out.size; obtain ⟨op, oc, rfl, _⟩ := id hno.shape; have HO4 := Lib.hid hno; have B6a : Hid (Box w4 w3.heap.size 29 (.slice none 0 0)) := Lib.hid (((Box.new w3 (.slice none 0 0) 29).keep (below_dN (Below.refl _ _) 1)).cured HD4.out hg4 (by decide)); obtain ⟨mc, mf, ml, mB⟩ := id B6a.out; clear hno hc4 hg4)
        | (go_at_call 128; refine (l1DrawOrder_any W0 cb bs _ a hal _ (HC3.out.keep (below_dN (Below.refl w3.heap.size w3) 1)) (HG3.out.below (below_dN (Below.refl w3.heap.size w3) 1))).mono ?_; rintro e w4 ⟨ov, o, rfl, hno, hol, hc4, hg4⟩; have HD4 := Lib.hid (HC3.out.keep (below_dN (Below.refl w3.heap.size w3) 1)); have HC4 := Lib.hid hc4; have HG4 := Lib.hid ((HG3.out.below (below_dN (Below.refl w3.heap.size w3) 1)).curedC HD4.out hg4); have HX4 := Lib.hid ((HX3.out.keep (below_dN (Below.refl w3.heap.size w3) 1)).cured HD4.out hg4 (by decide)); have c4 := HX4.out.cell; have HW4 : Hid (w3.grownBy w4 (some cb)) := Lib.hid (grown_trans (grown_of_below (below_dN (Below.refl w3.heap.size w3) 1) _) hg4); have hz4 : w3.heap.size ≤ w4.heap.size := HW4.out.size; obtain ⟨op, oc, rfl, _⟩ := id hno.shape; have HO4 := Lib.hid hno; clear hno hc4 hg4))
    all_goals go_wp2
    all_goals go_meet
    all_goals first
      | exact ⟨_, rp, rc, gb, ok, rfl, rfl, Nat.le_trans hz4 BW5.size, Lib.hid (Box.new w5 (.slice rp gb.length rc) 29), Lib.hid (HGB.out.below (below_alloc _ _)), Lib.hid (HC5.out.keep (below_alloc _ _)), Lib.hid (grown_trans HW5.out (grown_of_below (below_alloc _ _) _))⟩
      | exact ⟨w4.heap.size, rp, rc, gb, ok, rfl, rfl, hz4, Lib.hid (B6.out.set _), Lib.hid (gr_setBox HGB.out B6.out _), Lib.hid (HC5.out.setCell (Nat.lt_of_lt_of_le HC3.out.cb_lt hz4) _), Lib.hid (grown_newD HW5.out hz4 _)⟩
      | exact ⟨w3.heap.size, rp, rc, gb, ok, rfl, rfl, Nat.le_refl _, Lib.hid (B6.out.set _), Lib.hid (gr_setBox HGB.out B6.out _), Lib.hid (HC5.out.setCell HC3.out.cb_lt _), Lib.hid (grown_newD HW5.out (Nat.le_refl _) _)⟩
  case rest =>
    obtain ⟨b6, rp, rc, gb, ok, rfl, rfl, hb6, HX6, HGB, HC6, HW6⟩ := hcut
    have HX7 := Lib.hid (HX3.out.cured HC3.out HW6.out (by decide))
    have HGA := Lib.hid (HG3.out.curedC HC3.out HW6.out)
    have HU0 := Lib.hid (HZ0.out.cured HC3.out HW6.out (by decide))
    have HU1 := Lib.hid (HZ1.out.cured HC3.out HW6.out (by decide))
    clear HX3 HG3 HC3 HZ0 HZ1 c3 HW6
    go_upto_region 4 with fail
    go_cut [25] (fun s wx => ∃ z : Bool, s = .bool z ∧ Hid (Cur W0 wx cb bs) ∧ Hid (wc.grownBy wx (some cb)))
    case first =>
      cases ok
      · go_wp2_with fail
        go_meet
        exact ⟨true, rfl, HC6, Lib.hid (grown_of_below (Below.refl _ _) _)⟩
      · go_wp2_with (go_at_call 129; refine (l1Once_any W0 cb bs 3 (by decide) _ HC6.out).mono ?_; rintro e w7 ⟨b, rfl, hc7, hg7⟩; have HC7 := Lib.hid hc7; have HW7 := Lib.hid hg7; clear hc7 hg7)
        go_meet
        exact ⟨_, rfl, HC7, HW7⟩
    case rest =>
      obtain ⟨z, rfl, HC7, HW7⟩ := hcut
      have HXa := Lib.hid (HX7.out.cured HC6.out HW7.out (by decide))
      have HXb := Lib.hid (HX6.out.cured HC6.out HW7.out (by decide))
      have HGa := Lib.hid (HGA.out.curedC HC6.out HW7.out)
      have HGb := Lib.hid (HGB.out.curedC HC6.out HW7.out)
      have HV0 := Lib.hid (HU0.out.cured HC6.out HW7.out (by decide))
      have HV1 := Lib.hid (HU1.out.cured HC6.out HW7.out (by decide))
      clear HX7 HX6 HGA HGB HU0 HU1 HC6 HW7
      have hcb6 : cb < b6 := by omega
      have n0 : w.heap.size ≠ bx := by omega
      have n1 : w.heap.size + 1 ≠ bx := by omega
      have n2 : w.heap.size ≠ b6 := by omega
      have n3 : w.heap.size + 1 ≠ b6 := by omega
      cases z
      · go_upto_region 6 with fail
        obtain ⟨m0, mf0, ml0, mB0⟩ := id HV0.out
        have ca := HXa.out.cell
        have cb' := HXb.out.cell
        have HQ1 := Lib.hid (box_far HV1.out (show w.heap.size + 1 ≠ w.heap.size by omega) (.slice gp a.length gc))
        obtain ⟨m1, mf1, ml1, mB1⟩ := id HQ1.out
        have HQ0 := Lib.hid (HV0.out.set (.slice gp a.length gc))
        have da := (box_far HXa.out (Ne.symm n0) (.slice gp a.length gc)).cell
        have db := (box_far HXb.out (Ne.symm n2) (.slice gp a.length gc)).cell
        have HFA := Lib.hid (gr_setBox (gr_setBox HGa.out HV0.out (.slice gp a.length gc)) HQ1.out (.slice rp gb.length rc))
        have HFB := Lib.hid (gr_setBox (gr_setBox HGb.out HV0.out (.slice gp a.length gc)) HQ1.out (.slice rp gb.length rc))
        have ea := (box_far (box_far HXa.out (Ne.symm n0) (.slice gp a.length gc)) (Ne.symm n1) (.slice rp gb.length rc)).cell
        have eb := (box_far (box_far HXb.out (Ne.symm n2) (.slice gp a.length gc)) (Ne.symm n3) (.slice rp gb.length rc)).cell
        have HE0 := Lib.hid (box_far HQ0.out (show w.heap.size ≠ w.heap.size + 1 by omega) (.slice rp gb.length rc))
        have HE1 := Lib.hid (HQ1.out.set (.slice rp gb.length rc))
        have nc0 := HE0.out.cell
        have nc1 := HE1.out.cell
        have HBW := Lib.hid (((HBA.out.trans (HC7.out.bel.mono HBA.out.size)).setCell (p := ⟨w.heap.size, 0, none⟩) (Nat.le_refl _) (.slice gp a.length gc)).setCell (p := ⟨w.heap.size + 1, 0, none⟩) (Nat.le_succ _) (.slice rp gb.length rc))
        refine wp_region_held_drew (S := (fun w' => w'.cell? ⟨bx, 0, none⟩ = some (.slice gp a.length gc) ∧ w'.cell? ⟨b6, 0, none⟩ = some (.slice rp gb.length rc))) (by kernel_rfl) ?_ (fun hHeld => ?_)
        · exact ⟨ca, cb'⟩
        refine wpAnyH_take (i := 0) (v := .agg #[.slice gp a.length gc]) rfl (by kernel_rfl) (by kernel_rfl) (by kernel_rfl) (fun _ _ _ h => h) (Or.inl ⟨by rfl, ?_⟩) (by assumption) ?_
        · intro wz hSw; (try dsimp only at hSw); go_simp; try rfl
        try simp only [Act.put, List.getElem_toArray, List.getElem_cons_succ, List.getElem_cons_zero, List.setIfInBounds_toArray, List.set_cons_zero, List.set_cons_succ]
        refine wpAnyH_take (i := 1) (v := .agg #[.slice rp gb.length rc]) rfl (by kernel_rfl) (by kernel_rfl) (by kernel_rfl) (fun _ _ _ h => h) (Or.inl ⟨by rfl, ?_⟩) (by assumption) ?_
        · intro wz hSw; (try dsimp only at hSw); go_simp; try rfl
        try simp only [Act.put, List.getElem_toArray, List.getElem_cons_succ, List.getElem_cons_zero, List.setIfInBounds_toArray, List.set_cons_zero, List.set_cons_succ]
        refine wpAnyH_ready (rs := [2]) (by kernel_rfl) (by simp) ?_
        refine AllReadyH.cons rfl (fun K hK => ?_) AllReadyH.nil
        go_simp
        refine hK.out _ _ ?_ (fun hHeld => ?_)
        · exact ⟨da, db⟩
        clear hK K
        try simp only [Act.put, List.getElem_toArray, List.getElem_cons_succ, List.getElem_cons_zero, List.setIfInBounds_toArray, List.set_cons_zero, List.set_cons_succ]
        refine wpAnyH_ready (rs := [3]) (by kernel_rfl) (by simp) ?_
        refine AllReadyH.cons rfl (fun K hK => ?_) AllReadyH.nil
        go_simp
        refine hK.out _ _ ?_ (fun hHeld => ?_)
        · exact ⟨ea, eb⟩
        clear hK K
        try simp only [Act.put, List.getElem_toArray, List.getElem_cons_succ, List.getElem_cons_zero, List.setIfInBounds_toArray, List.set_cons_zero, List.set_cons_succ]
        refine wpAnyH_done (by kernel_rfl) ?_ _
        go_wp2_with fail
        refine bodyPost_ret (v := .tuple #[.agg #[.slice gp a.length gc], .agg #[.slice rp gb.length rc]]) (by simp [results, Tryd.results43, go_sem, nc0, nc1]) rfl ⟨_, _, _, _, a, gb, rfl, HFA.out, HFB.out, (by first | exact HBW.out | exact below_dN HBW.out 1)⟩
      · go_upto_region 6 with (go_at_call 127; refine (l4Draw_any W0 cb bs _ HC7.out).mono ?_; rintro e w8 ⟨qp, qc, gd, rfl, hgd, _, _, hc8, hg8⟩; have HC8 := Lib.hid hc8; have HGd := Lib.hid hgd; have HYa := Lib.hid (HXa.out.cured HC7.out hg8 (by decide)); have HYb := Lib.hid (HXb.out.cured HC7.out hg8 (by decide)); have HGe := Lib.hid (HGa.out.curedC HC7.out hg8); have HS0 := Lib.hid (HV0.out.cured HC7.out hg8 (by decide)); have HS1 := Lib.hid (HV1.out.cured HC7.out hg8 (by decide)); obtain ⟨nc, nf, nl, nB⟩ := id HYb.out; clear hgd hc8 hg8)
        have ncb6 : bx ≠ b6 := by omega
        obtain ⟨w9, hw9⟩ : ∃ w9, w9 = w8.setCell ⟨b6, 0, none⟩ (.slice qp gd.length qc) := ⟨_, rfl⟩
        rw [← hw9]
        have HXb9 : Hid (Box w9 b6 29 (.slice qp gd.length qc)) := Lib.hid (by rw [hw9]; exact HYb.out.set _)
        have HXa9 : Hid (Box w9 bx 29 (.slice gp a.length gc)) := Lib.hid (by rw [hw9]; exact box_far HYa.out ncb6 _)
        have HGb9 : Hid (Gr w9 (.agg #[.slice qp gd.length qc]) gd) := Lib.hid (by rw [hw9]; exact gr_setBox HGd.out HYb.out _)
        have HGa9 : Hid (Gr w9 (.agg #[.slice gp a.length gc]) a) := Lib.hid (by rw [hw9]; exact gr_setBox HGe.out HYb.out _)
        have HV09 : Hid (Box w9 w.heap.size 29 (.slice none 0 0)) := Lib.hid (by rw [hw9]; exact box_far HS0.out n2 _)
        have HV19 : Hid (Box w9 (w.heap.size + 1) 29 (.slice none 0 0)) := Lib.hid (by rw [hw9]; exact box_far HS1.out n3 _)
        have HC9 : Hid (Cur W0 w9 cb bs) := Lib.hid (by rw [hw9]; exact HC8.out.setCell hcb6 _)
        clear nc nf nl nB hw9
        obtain ⟨m0, mf0, ml0, mB0⟩ := id HV09.out
        have ca := HXa9.out.cell
        have cb' := HXb9.out.cell
        have HQ1 := Lib.hid (box_far HV19.out (show w.heap.size + 1 ≠ w.heap.size by omega) (.slice gp a.length gc))
        obtain ⟨m1, mf1, ml1, mB1⟩ := id HQ1.out
        have HQ0 := Lib.hid (HV09.out.set (.slice gp a.length gc))
        have da := (box_far HXa9.out (Ne.symm n0) (.slice gp a.length gc)).cell
        have db := (box_far HXb9.out (Ne.symm n2) (.slice gp a.length gc)).cell
        have HFA := Lib.hid (gr_setBox (gr_setBox HGa9.out HV09.out (.slice gp a.length gc)) HQ1.out (.slice qp gd.length qc))
        have HFB := Lib.hid (gr_setBox (gr_setBox HGb9.out HV09.out (.slice gp a.length gc)) HQ1.out (.slice qp gd.length qc))
        have ea := (box_far (box_far HXa9.out (Ne.symm n0) (.slice gp a.length gc)) (Ne.symm n1) (.slice qp gd.length qc)).cell
        have eb := (box_far (box_far HXb9.out (Ne.symm n2) (.slice gp a.length gc)) (Ne.symm n3) (.slice qp gd.length qc)).cell
        have HE0 := Lib.hid (box_far HQ0.out (show w.heap.size ≠ w.heap.size + 1 by omega) (.slice qp gd.length qc))
        have HE1 := Lib.hid (HQ1.out.set (.slice qp gd.length qc))
        have nc0 := HE0.out.cell
        have nc1 := HE1.out.cell
        have HBW := Lib.hid (((HBA.out.trans (HC9.out.bel.mono HBA.out.size)).setCell (p := ⟨w.heap.size, 0, none⟩) (Nat.le_refl _) (.slice gp a.length gc)).setCell (p := ⟨w.heap.size + 1, 0, none⟩) (Nat.le_succ _) (.slice qp gd.length qc))
        refine wp_region_held_drew (S := (fun w' => w'.cell? ⟨bx, 0, none⟩ = some (.slice gp a.length gc) ∧ w'.cell? ⟨b6, 0, none⟩ = some (.slice qp gd.length qc))) (by kernel_rfl) ?_ (fun hHeld => ?_)
        · exact ⟨ca, cb'⟩
        refine wpAnyH_take (i := 0) (v := .agg #[.slice gp a.length gc]) rfl (by kernel_rfl) (by kernel_rfl) (by kernel_rfl) (fun _ _ _ h => h) (Or.inl ⟨by rfl, ?_⟩) (by assumption) ?_
        · intro wz hSw; (try dsimp only at hSw); go_simp; try rfl
        try simp only [Act.put, List.getElem_toArray, List.getElem_cons_succ, List.getElem_cons_zero, List.setIfInBounds_toArray, List.set_cons_zero, List.set_cons_succ]
        refine wpAnyH_take (i := 1) (v := .agg #[.slice qp gd.length qc]) rfl (by kernel_rfl) (by kernel_rfl) (by kernel_rfl) (fun _ _ _ h => h) (Or.inl ⟨by rfl, ?_⟩) (by assumption) ?_
        · intro wz hSw; (try dsimp only at hSw); go_simp; try rfl
        try simp only [Act.put, List.getElem_toArray, List.getElem_cons_succ, List.getElem_cons_zero, List.setIfInBounds_toArray, List.set_cons_zero, List.set_cons_succ]
        refine wpAnyH_ready (rs := [2]) (by kernel_rfl) (by simp) ?_
        refine AllReadyH.cons rfl (fun K hK => ?_) AllReadyH.nil
        go_simp
        refine hK.out _ _ ?_ (fun hHeld => ?_)
        · exact ⟨da, db⟩
        clear hK K
        try simp only [Act.put, List.getElem_toArray, List.getElem_cons_succ, List.getElem_cons_zero, List.setIfInBounds_toArray, List.set_cons_zero, List.set_cons_succ]
        refine wpAnyH_ready (rs := [3]) (by kernel_rfl) (by simp) ?_
        refine AllReadyH.cons rfl (fun K hK => ?_) AllReadyH.nil
        go_simp
        refine hK.out _ _ ?_ (fun hHeld => ?_)
        · exact ⟨ea, eb⟩
        clear hK K
        try simp only [Act.put, List.getElem_toArray, List.getElem_cons_succ, List.getElem_cons_zero, List.setIfInBounds_toArray, List.set_cons_zero, List.set_cons_succ]
        refine wpAnyH_done (by kernel_rfl) ?_ _
        go_wp2_with fail
        refine bodyPost_ret (v := .tuple #[.agg #[.slice gp a.length gc], .agg #[.slice qp gd.length qc]]) (by simp [results, Tryd.results43, go_sem, nc0, nc1]) rfl ⟨_, _, _, _, a, gd, rfl, HFA.out, HFB.out, (by first | exact HBW.out | exact below_dN HBW.out 1)⟩

end Go.Proofs.YtkppbmfliejnmaaDoor
