/- Walk: the program's ThreeColours. -/
import Derived.Test.YtgecghfaoonelaaDoorSpecF
import Derived.Test.YtgecghfaoonelaaDoorImplS
import Derived.Handy
import Derived.Deep.CutBlock
namespace Go.Proofs.YtgecghfaoonelaaDoor
open Go.RowKit

theorem ix20 (x y : Int) : ∀ w, (Instr.index 69 (.agg #[.int .i64 x, .int .i64 y]) (.int .i64 0)).run Tryd.prog w = .ok (.int .i64 x) w := fun _ => by kernel_rfl
theorem ix21 (x y : Int) : ∀ w, (Instr.index 69 (.agg #[.int .i64 x, .int .i64 y]) (.int .i64 1)).run Tryd.prog w = .ok (.int .i64 y) w := fun _ => by kernel_rfl

set_option maxRecDepth 100000 in
set_option maxHeartbeats 8000000 in
theorem implThreeColours_any (v : Value) (g : List (List Int)) (w : World) (hg : Gr w v g) (hT : Tab w) :
    Calls Tryd.prog 23 #[v] w fun e w' => ∃ (ov : Value) (ys : List Int), e = .returned (.tuple #[ov, .bool (dec (SerS g))]) ∧ ColS g ys ∧ ys.length ≤ 16 ∧
      w'.ownsRow w.heap.size 2 1 ov ys.length (ys.map (Value.int .i64)) ∧ Below w.heap.size w w' := by
  have hg0 := hg
  obtain ⟨u, rfl, hr⟩ := hg
  obtain ⟨p, c, rfl, _, _, _⟩ := hr.shape
  have hbA := Lib.hid (below_alloc w (.cells #[.slice p g.length c] 29))
  have HG := Lib.hid (hg0.below hbA.out)
  have BX := Lib.hid (Box.new w (.slice p g.length c) 29)
  have HT := Lib.hid (hT.keep hbA.out)
  clear hr hg0 hT
  by_cases hok : SerS g
  case neg =>
    have hd := dec_false hok
    have Hok := Lib.hid hok
    clear hok
    go_enter Tryd.func23, Tryd.ntmps23
    go_wp2_with (go_at_call 35; refine (implSeriesIn_any _ g _ HG.out HT.out).mono ?_; rintro e w2 ⟨rfl, hb2⟩)
    go_ret2
    refine ⟨_, [], by rw [hd]; rfl, .inr ⟨Hok.out, rfl⟩, by simp, ⟨rfl, .inl ⟨rfl, rfl⟩⟩, hbA.out.trans (hb2.mono hbA.out.size)⟩
  have hd := dec_true hok
  have hlen := hok.1.le
  have Hok := Lib.hid hok
  clear hok
  go_enter Tryd.func23, Tryd.ntmps23
  go_wp2_with (first
    | (at_make; refine wpList_mk ty_i64 rfl rfl rfl g.length rfl rfl rfl rfl (by omega) ?_; intro w4 hown4 hg4)
    | (go_at_call 35; refine (implSeriesIn_any _ g _ HG.out HT.out).mono ?_; rintro e w2 ⟨rfl, hb2⟩; have hbx := (BX.out.keep hb2).cell; have hbf := (BX.out.keep hb2).free)
    | (go_at_call 18; refine (implFoldedOf_any _ g _ (HG.out.below hb2) (HT.out.keep hb2)).mono ?_; rintro e w3 ⟨ov, lv, fs, l, rfl, hF, ho, hn, hfl, _, hb3⟩; have HF := Lib.hid hF; have hfd := Lib.hid (Fds.of_owns ho (by omega)); obtain ⟨fp, fc, rfl, _⟩ := hfd.out.shape; have hbx3 := ((BX.out.keep hb2).keep hb3).cell; clear hF ho hn))
  have hb4 := grown_below hg4
  have hb24 := (hb2.trans (hb3.mono hb2.size)).trans (hb4.mono (Nat.le_trans hb2.size hb3.size))
  have HB4 := Lib.hid (hbA.out.trans (hb24.mono hbA.out.size))
  have FD4 := Lib.hid (hfd.out.below hb4)
  have h3 : w.heap.size ≤ w3.heap.size := by have := hbA.out.size; have := hb2.size; have := hb3.size; omega
  have HO4 := Lib.hid hown4
  clear hbx hbf hb2 hb3 hb4 hb24 hg4 hfd hown4 hbx3
  go_loopw [7] (fun i wr => ∃ (k : Nat) (z : Int), k ≤ fs.length ∧ i = .int .i64 z ∧ z = (k : Int) - 1 ∧ wr.ownsRow w3.heap.size 2 1 (.slice (some ⟨w3.heap.size, 0, none⟩) g.length g.length) g.length ((colL g.length (fs.drop k)).map (Value.int .i64)) ∧ Fds wr (.slice fp fs.length fc) fs ∧ Below w.heap.size w wr ∧ w3.heap.size < wr.heap.size)
    (fun i _ => (intOf i + 1).toNat)
  case atStart => exact ⟨fs.length, _, Nat.le_refl _, rfl, rfl, by simpa [colL] using HO4.out, FD4.out, HB4.out, (HO4.out.lt w3.heap.size rfl).2⟩
  case round =>
    obtain ⟨k, z, hk, rfl, hz, hown, hfds, hbel, hw3⟩ := hrel
    cases k with
    | zero =>
      obtain rfl : z = -1 := by omega
      clear hfds hz
      go_wp2
      go_ret2
      exact ⟨_, colL g.length fs, by rw [hd]; rfl, .inl ⟨Hok.out, fs, l, HF.out, rfl⟩, by rw [colL_length]; omega, by rw [colL_length]; exact ownsRow_base hown h3, hbel⟩
    | succ j =>
      have hlt : j < fs.length := by omega
      obtain rfl : z = (j : Int) := by omega
      obtain ⟨_, _, e1, _, _, _, hat⟩ := id hfds.shape
      cases e1
      obtain ⟨b, o, rfl, hc1, hc2, hc3⟩ := hat.fold hlt
      have hin := foldedS_in HF.out fs[j] (List.getElem_mem _)
      have hst := Lib.hid (colL_step g.length fs j hlt)
      have hOl := colL_length g.length (fs.drop (j + 1))
      have hO3 := colL_lt g.length (fs.drop (j + 1))
      generalize colL g.length (fs.drop (j + 1)) = O at hown hst hOl hO3
      generalize fs[j] = f at hc1 hc2 hc3 hin hst
      obtain ⟨V, A, B⟩ := f
      obtain ⟨V0, V1, A0, A1, B0, B1, BA⟩ := hin
      simp only at hc1 hc2 hc3 V0 V1 A0 A1 B0 B1 BA
      have HBA := Lib.hid BA
      obtain ⟨v, rfl⟩ := Int.eq_ofNat_of_zero_le V0
      have hv : v < g.length := by omega
      have hO : ∀ a, a < g.length → O.getD a 0 = 0 ∨ O.getD a 0 = 1 ∨ O.getD a 0 = 2 := fun a ha => by
        have e : O.getD a 0 = O[a]'(by omega) := by simp [List.getElem?_eq_getElem (show a < O.length by omega)]
        rw [e]; exact hO3 _ (List.getElem_mem _)
      have HO := Lib.hid hO
      have Hfds := Lib.hid hfds
      have ba := fun ob => below_alloc2 wr (.cells #[.int .i64 v, .int .i64 A, .int .i64 B] 52) ob
      have Ba := Lib.hid ba
      have hN := Lib.hid (fun a (ha : a < g.length) ob => col_cell (ownsRow_below hown (ba ob)) ha)
      have Hown := Lib.hid hown
      have ne1 : w3.heap.size ≠ wr.heap.size := by omega
      have ne2 := Ne.symm ne1
      have ne3 : w3.heap.size ≠ wr.heap.size + 1 := by omega
      have ne4 := Ne.symm ne3
      clear hat hfds hz hown ba hO hO3 BA
      go_upto_block 2 with fail
      go_cut [] (fun wx => wx = (wr.alloc (.cells #[.int .i64 v, .int .i64 A, .int .i64 B] 52)).alloc (.cells #[.bool (decide (Taken O ⟨v, A, B⟩ 0)), .bool (decide (Taken O ⟨v, A, B⟩ 1)), .bool (decide (Taken O ⟨v, A, B⟩ 2))] 68))
      case first =>
        clear hc1 hc2 hc3
        by_cases hA : 0 ≤ A
        · obtain ⟨a, rfl⟩ := Int.eq_ofNat_of_zero_le hA
          have hca := hN.out a (by omega)
          have hO1 := HO.out a (by omega)
          by_cases hB : 0 ≤ B
          · obtain ⟨b', rfl⟩ := Int.eq_ofNat_of_zero_le hB
            have hcb := hN.out b' (by omega)
            have hO2 := HO.out b' (by omega)
            have hT : Hid (∀ k : Int, Taken O ⟨v, a, b'⟩ k ↔ (O.getD a 0 = k ∨ O.getD b' 0 = k)) := Lib.hid (by intro k; simp [Taken])
            rcases hO1 with h1 | h1 | h1 <;> rcases hO2 with h2 | h2 | h2
            all_goals
              rw [h1] at hca
              rw [h2] at hcb
              rw [h1, h2] at hT
              clear h1 h2
              have i0 := ix20 a b'
              have i1 := ix21 a b'
              go_upto_region 10 with fail
              go_rounds 3
              go_meet
              have hT' := hT.out
              simp [hT']
          · have hT : Hid (∀ k : Int, Taken O ⟨v, a, B⟩ k ↔ (O.getD a 0 = k)) := Lib.hid (by intro k; simp [Taken, hB])
            rcases hO1 with h1 | h1 | h1
            all_goals
              rw [h1] at hca
              rw [h1] at hT
              clear h1
              have i0 := ix20 a B
              have i1 := ix21 a B
              go_upto_region 10 with fail
              go_rounds 3
              go_meet
              have hT' := hT.out
              simp [hT']
        · have hB : ¬ 0 ≤ B := fun h => hA (HBA.out h)
          have hT : Hid (∀ k : Int, ¬ Taken O ⟨v, A, B⟩ k) := Lib.hid (by intro k; simp [Taken, hA, hB])
          have i0 := ix20 A B
          have i1 := ix21 A B
          go_upto_region 10 with fail
          go_rounds 3
          go_meet
          have hT' := hT.out
          simp [hT']
      case rest =>
        obtain rfl := hcut
        have key : ∀ (k : Int), colN O ⟨v, A, B⟩ = k → True := fun _ _ => trivial
        have fin : ∀ (t : Array Value) (W : World), W = ((wr.setCell ⟨w3.heap.size, v, none⟩ (.int .i64 (colN O ⟨v, A, B⟩))).alloc (.cells #[.int .i64 v, .int .i64 A, .int .i64 B] 52)).alloc (.cells t 68) →
            W.ownsRow w3.heap.size 2 1 (.slice (some ⟨w3.heap.size, 0, none⟩) g.length g.length) g.length ((colL g.length (fs.drop j)).map (Value.int .i64)) ∧ Fds W (.slice (some ⟨b, o, none⟩) fs.length fc) fs ∧ Below w.heap.size w W ∧ w3.heap.size < W.heap.size := by
          rintro t W rfl
          obtain ⟨ho2, hg2⟩ := Hown.out.stored v (.int .i64 (colN O ⟨v, A, B⟩))
          have hb2 := below_grown hbel Hown.out hg2 h3 (by omega)
          have s2 := hg2.size
          have ba2 := below_alloc2 (wr.setCell ⟨w3.heap.size, v, none⟩ (.int .i64 (colN O ⟨v, A, B⟩))) (.cells #[.int .i64 v, .int .i64 A, .int .i64 B] 52) (.cells t 68)
          refine ⟨?_, Sl.below (Sl.other Hfds.out Hown.out hg2 (by decide)) ba2, hb2.trans (ba2.mono hb2.size), by rw [size_alloc, size_alloc]; omega⟩
          rw [hst.out, ← colStep_map]
          exact ownsRow_below ho2 ba2
        have Fin := Lib.hid fin
        have hf := fun ob => (ownsRow_below Hown.out (Ba.out ob)).frozenAt v
        have hcv := hN.out v hv
        clear hc1 hc2 hc3 fin key
        by_cases h0 : Taken O ⟨v, A, B⟩ 0
        · by_cases h1 : Taken O ⟨v, A, B⟩ 1
          · have hcol : colN O ⟨v, A, B⟩ = 2 := by simp [colN, h0, h1]
            have h2 : ¬ Taken O ⟨v, A, B⟩ 2 := by have := colN_free (out := O) (f := ⟨v, A, B⟩); rw [hcol] at this; exact this
            rw [decide_eq_true h0, decide_eq_true h1, decide_eq_false h2]
            rw [hcol] at Fin
            clear h0 h1 h2 hcol
            go_upto_region 16 with fail
            go_rounds 4
            go_roundw
            case rel => obtain ⟨f1, f2, f3, f4⟩ := Fin.out _ _ rfl; exact ⟨j, _, by omega, by go_num, rfl, f1, f2, f3, f4⟩
            case measure => simp [intOf]
          · have hcol : colN O ⟨v, A, B⟩ = 1 := by simp [colN, h0, h1]
            rw [decide_eq_true h0, decide_eq_false h1]
            rw [hcol] at Fin
            clear h0 h1 hcol
            generalize decide (Taken O ⟨v, A, B⟩ 2) = t2
            go_upto_region 16 with fail
            go_rounds 4
            go_roundw
            case rel => obtain ⟨f1, f2, f3, f4⟩ := Fin.out _ _ rfl; exact ⟨j, _, by omega, by go_num, rfl, f1, f2, f3, f4⟩
            case measure => simp [intOf]
        · have hcol : colN O ⟨v, A, B⟩ = 0 := by simp [colN, h0]
          rw [decide_eq_false h0]
          rw [hcol] at Fin
          clear h0 hcol
          generalize decide (Taken O ⟨v, A, B⟩ 2) = t2
          generalize decide (Taken O ⟨v, A, B⟩ 1) = t1
          go_upto_region 16 with fail
          go_rounds 4
          go_roundw
          case rel => obtain ⟨f1, f2, f3, f4⟩ := Fin.out _ _ rfl; exact ⟨j, _, by omega, by go_num, rfl, f1, f2, f3, f4⟩
          case measure => simp [intOf]

end Go.Proofs.YtgecghfaoonelaaDoor
