/- Walk: the reference's ThreeColours. -/
import Derived.Test.YtgecghfaoonelaaDoorSpecE
import Derived.Test.YtgecghfaoonelaaDoorColP
namespace Go.Proofs.YtgecghfaoonelaaDoor
open Go.RowKit

theorem col_cell {w : World} {base b n : Nat} {O : List Int} (h : w.ownsRow base 2 1 (.slice (some ⟨b, 0, none⟩) n n) n (O.map (Value.int .i64))) {a : Nat} (ha : a < n) : w.cell? ⟨b, a, none⟩ = some (.int .i64 (O.getD a 0)) := by
  have hl : O.length = n := by simpa using h.1
  rw [h.cellAt a (by omega)]
  simp [hl, ha]
theorem colStep_map (O : List Int) (v : Nat) (A B : Int) : (O.map (Value.int .i64)).set v (.int .i64 (colN O ⟨v, A, B⟩)) = (colStep O ⟨v, A, B⟩).map (Value.int .i64) := by
  simp [colStep, List.map_set]

set_option maxRecDepth 100000 in
set_option maxHeartbeats 4000000 in
theorem specThreeColours_any (v : Value) (g : List (List Int)) (w : World) (hg : Gr w v g) :
    Calls Tryd.prog 22 #[v] w fun e w' => ∃ (ov : Value) (ys : List Int), e = .returned (.tuple #[ov, .bool (dec (SerS g))]) ∧ ColS g ys ∧ ys.length ≤ 16 ∧
      w'.ownsRow w.heap.size 2 1 ov ys.length (ys.map (Value.int .i64)) ∧ Below w.heap.size w w' := by
  have hg0 := hg
  obtain ⟨u, rfl, hr⟩ := hg
  obtain ⟨p, c, rfl, _, _, _⟩ := hr.shape
  have hbA := Lib.hid (below_alloc w (.cells #[.slice p g.length c] 29))
  have HG := Lib.hid (hg0.below hbA.out)
  have BX := Lib.hid (Box.new w (.slice p g.length c) 29)
  clear hr hg0
  by_cases hok : SerS g
  case neg =>
    have hd := dec_false hok
    have Hok := Lib.hid hok
    clear hok
    go_enter Tryd.func22, Tryd.ntmps22
    go_wp2_with (go_at_call 33; refine (specSeriesIn_any _ g _ HG.out).mono ?_; rintro e w2 ⟨rfl, hb2⟩)
    go_ret2
    refine ⟨_, [], by rw [hd]; rfl, .inr ⟨Hok.out, rfl⟩, by simp, ownsRow_base (ownsRow_empty w2 2 1) (by have := hbA.out.size; have := hb2.size; omega), (hbA.out.trans (hb2.mono hbA.out.size)).alloc (Nat.le_trans hbA.out.size hb2.size) _⟩
  have hd := dec_true hok
  have hlen := hok.1.le
  have Hok := Lib.hid hok
  clear hok
  go_enter Tryd.func22, Tryd.ntmps22
  go_wp2_with (first
    | (at_make; refine wpList_mk ty_i64 rfl rfl rfl g.length rfl rfl rfl rfl (by omega) ?_; intro w4 hown4 hg4)
    | (go_at_call 33; refine (specSeriesIn_any _ g _ HG.out).mono ?_; rintro e w2 ⟨rfl, hb2⟩; have hbx := (BX.out.keep hb2).cell; have hbf := (BX.out.keep hb2).free)
    | (go_at_call 17; refine (specFoldedOf_any _ g _ (HG.out.below hb2)).mono ?_; rintro e w3 ⟨ov, lv, fs, l, rfl, hF, ho, hn, hfl, _, hb3⟩; have HF := Lib.hid hF; have hfd := Lib.hid (Fds.of_owns ho (by omega)); obtain ⟨fp, fc, rfl, _⟩ := hfd.out.shape; have hbx3 := ((BX.out.keep hb2).keep hb3).cell; clear hF ho hn))
  have hb4 := grown_below hg4
  have hb24 := (hb2.trans (hb3.mono hb2.size)).trans (hb4.mono (Nat.le_trans hb2.size hb3.size))
  have HB4 := Lib.hid (hbA.out.trans (hb24.mono hbA.out.size))
  have FD4 := Lib.hid (hfd.out.below hb4)
  have h3 : w.heap.size ≤ w3.heap.size := by have := hbA.out.size; have := hb2.size; have := hb3.size; omega
  have HO4 := Lib.hid hown4
  clear hbx hbf hb2 hb3 hb4 hb24 hg4 hfd hown4 hbx3
  go_loopw [7] (fun i wr => ∃ (k : Nat) (z : Int), k ≤ fs.length ∧ i = .int .i64 z ∧ z = (k : Int) - 1 ∧ wr.ownsRow w3.heap.size 2 1 (.slice (some ⟨w3.heap.size, 0, none⟩) g.length g.length) g.length ((colL g.length (fs.drop k)).map (Value.int .i64)) ∧ Fds wr (.slice fp fs.length fc) fs ∧ Below w.heap.size w wr ∧ w3.heap.size < wr.heap.size)
    (fun i _ => (intOf i + 1).toNat)
  case atStart => exact ⟨fs.length, _, Nat.le_refl _, rfl, rfl, by simpa [colL] using HO4.out, FD4.out, HB4.out, (HO4.out.lt w3.heap.size rfl).2⟩
  case round =>
    obtain ⟨k, z, hk, rfl, hz, hown, hfds, hbel, hw3⟩ := hrel
    cases k with
    | zero =>
      obtain rfl : z = -1 := by omega
      clear hfds hz
      go_wp2
      go_ret2
      exact ⟨_, colL g.length fs, by rw [hd]; rfl, .inl ⟨Hok.out, fs, l, HF.out, rfl⟩, by rw [colL_length]; omega, by rw [colL_length]; exact ownsRow_base hown h3, hbel⟩
    | succ j =>
      have hlt : j < fs.length := by omega
      obtain rfl : z = (j : Int) := by omega
      obtain ⟨_, _, e1, _, _, _, hat⟩ := id hfds.shape
      cases e1
      obtain ⟨b, o, rfl, hc1, hc2, hc3⟩ := hat.fold hlt
      have hin := foldedS_in HF.out fs[j] (List.getElem_mem _)
      have hst := Lib.hid (colL_step g.length fs j hlt)
      have hOl := colL_length g.length (fs.drop (j + 1))
      generalize colL g.length (fs.drop (j + 1)) = O at hown hst hOl
      generalize fs[j] = f at hc1 hc2 hc3 hin hst
      obtain ⟨V, A, B⟩ := f
      obtain ⟨V0, V1, A0, A1, B0, B1, BA⟩ := hin
      simp only at hc1 hc2 hc3 V0 V1 A0 A1 B0 B1 BA
      have HBA := Lib.hid BA
      clear BA
      obtain ⟨v, rfl⟩ := Int.eq_ofNat_of_zero_le V0
      have hv : v < g.length := by omega
      have Hfds := Lib.hid hfds
      have ba := below_alloc wr (.cells #[.int .i64 v, .int .i64 A, .int .i64 B] 52)
      have hown' := ownsRow_below hown ba
      have hf := hown'.frozenAt v
      have hcv := col_cell hown' hv
      have hN := Lib.hid (fun a (ha : a < g.length) => col_cell hown' ha)
      have Hown' := Lib.hid hown'
      have Hown := Lib.hid hown
      have Ba := Lib.hid ba
      have ne1 : w3.heap.size ≠ wr.heap.size := by omega
      have ne2 := Ne.symm ne1
      clear hat hfds hz hown hown' ba
      go_upto_region 10 with fail
      go_loop [9] (fun n' => ∃ m : Nat, m ≤ colN O ⟨v, A, B⟩ ∧ n' = .int .i64 m) (fun n' => colN O ⟨v, A, B⟩ - (intOf n').toNat)
      case atStart => exact ⟨0, Nat.zero_le _, rfl⟩
      case round =>
        obtain ⟨m, hm, rfl⟩ := hrel
        go_upto_region 10 with fail
        go_cut [59] (fun s wx => s = .bool (decide (Taken O ⟨v, A, B⟩ m)) ∧ wx = wr.alloc (.cells #[.int .i64 v, .int .i64 A, .int .i64 B] 52))
        case first =>
          clear hc1 hc2 hc3 hf hcv
          have tB : ∀ (h : ¬ (0 ≤ A ∧ O.getD A.toNat 0 = m)) , Taken O ⟨v, A, B⟩ m ↔ 0 ≤ B ∧ O.getD B.toNat 0 = m := fun h => by unfold Taken; simp only [h, false_or]
          by_cases hAm : 0 ≤ A ∧ O.getD A.toNat 0 = m
          · have hT : decide (Taken O ⟨v, A, B⟩ m) = true := decide_eq_true (.inl hAm)
            have HT := Lib.hid hT
            obtain ⟨a, rfl⟩ := Int.eq_ofNat_of_zero_le hAm.1
            have hca := hN.out a (by omega)
            rw [show O.getD a 0 = (m : Int) from hAm.2] at hca
            clear hT hAm tB
            go_wp2
            go_meet
            exact ⟨by rw [HT.out], rfl⟩
          have hT := Lib.hid (tB hAm)
          have HA := Lib.hid hAm
          clear tB hAm
          rcases (by omega : ¬ 0 ≤ A ∨ 0 ≤ A) with hA | hA
          · rcases (by omega : ¬ 0 ≤ B ∨ 0 ≤ B) with hB | hB
            · go_wp2
              go_meet
              exact ⟨by rw [decide_eq_false (fun h => by have := hT.out.1 h; omega)], rfl⟩
            · exact absurd (HBA.out hB) hA
          · obtain ⟨a, rfl⟩ := Int.eq_ofNat_of_zero_le hA
            have hca := hN.out a (by omega)
            have ha' : (O.getD a 0 == (m : Int)) = false := by simpa using fun h => HA.out ⟨hA, h⟩
            generalize O.getD a 0 = x at hca ha'
            rcases (by omega : ¬ 0 ≤ B ∨ 0 ≤ B) with hB | hB
            · go_wp2
              go_meet
              exact ⟨by rw [decide_eq_false (fun h => by have := hT.out.1 h; omega)], rfl⟩
            · obtain ⟨b', rfl⟩ := Int.eq_ofNat_of_zero_le hB
              have hcb := hN.out b' (by omega)
              by_cases hb : O.getD b' 0 = m
              · rw [hb] at hcb
                have Hb := Lib.hid hb
                clear hb
                go_wp2
                go_meet
                exact ⟨by rw [decide_eq_true (hT.out.2 ⟨hB, Hb.out⟩)], rfl⟩
              · have hb' : (O.getD b' 0 == (m : Int)) = false := by simpa using hb
                have Hb := Lib.hid hb
                clear hb
                generalize O.getD b' 0 = y at hcb hb'
                go_wp2
                go_meet
                exact ⟨by rw [decide_eq_false (fun h => Hb.out (hT.out.1 h).2)], rfl⟩
        case rest =>
          obtain ⟨rfl, rfl⟩ := hcut
          by_cases hlt2 : m < colN O ⟨v, A, B⟩
          · have hT := decide_eq_true (colN_lt hlt2)
            rw [hT]
            clear hT hc1 hc2 hc3 hf hcv
            have := colN_le O ⟨v, A, B⟩
            go_wp2
            go_round
            case rel => exact ⟨m + 1, by omega, by go_num⟩
            case measure => simp [intOf]; omega
          · obtain rfl : m = colN O ⟨v, A, B⟩ := by omega
            have hT := decide_eq_false (colN_free (out := O) (f := ⟨v, A, B⟩))
            rw [hT]
            have Hst := Lib.hid (Hown.out.stored v (.int .i64 (colN O ⟨v, A, B⟩)))
            generalize hcol : colN O ⟨v, A, B⟩ = m at *
            go_wp2
            go_roundw
            case rel =>
              obtain ⟨ho2, hg2⟩ := Hst.out
              have hb2 := below_grown hbel Hown.out hg2 h3 (by omega)
              have s2 := hg2.size
              refine ⟨j, _, by omega, by go_num, rfl, ?_, Sl.below (Sl.other Hfds.out Hown.out hg2 (by decide)) (below_alloc _ _), hb2.alloc hb2.size _, by rw [size_alloc]; omega⟩
              rw [hst.out, ← colStep_map, hcol]
              exact ownsRow_below ho2 (below_alloc _ _)
            case measure => simp [intOf]

end Go.Proofs.YtgecghfaoonelaaDoor
