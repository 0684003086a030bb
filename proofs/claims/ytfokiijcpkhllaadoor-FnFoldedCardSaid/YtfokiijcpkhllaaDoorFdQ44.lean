/- Walk: the program's CoreOf. -/
import Derived.Test.YtfokiijcpkhllaaDoorFdQ26
import Derived.Test.YtfokiijcpkhllaaDoorFdQ11
import Derived.Test.YtfokiijcpkhllaaDoorFdQ8
import Derived.Test.YtfokiijcpkhllaaDoorFdQ12
import Derived.Handy
import Derived.Deep.CutBlock
namespace Go.Proofs.YtfokiijcpkhllaaDoor
open Go.RowKit

theorem dg_nil (w : World) (base : Nat) : DG w base (.agg #[.slice none 0 0]) [] := ⟨_, [], rfl, rfl, World.ownsRow_nil _ _ _ _, ⟨fun j hj => by simp at hj, fun i j hi => by simp at hi⟩⟩

set_option maxRecDepth 100000 in
set_option maxHeartbeats 4000000 in
theorem implCoreOf_any (v : Value) (g : List (List Int)) (w : World) (hg : Gr w v g) (hT : Tab w) :
    Calls Tryd.prog 23 #[v] w fun e w' => ∃ (u : Value) (gg : List (List Int)) (ok : Bool), e = .returned (.tuple #[u, .bool ok]) ∧ CoreS g gg ok ∧ DG w' w.heap.size u gg ∧ gg.length ≤ 16 ∧ (∀ j, (row gg j).length ≤ 16) ∧ Below w.heap.size w w' := by
  have hg0 := hg
  obtain ⟨u, rfl, hr⟩ := hg
  obtain ⟨p, c, rfl, _, _, _⟩ := hr.shape
  have hbA := Lib.hid (below_alloc2 w (.cells #[.slice p g.length c] 29) (.cells #[.slice none 0 0] 29))
  have BX := Lib.hid ((Box.new w (.slice p g.length c) 29).alloc (.cells #[.slice none 0 0] 29))
  have BN : Hid (Box ((w.alloc (.cells #[.slice p g.length c] 29)).alloc (.cells #[.slice none 0 0] 29)) (w.heap.size + 1) 29 (.slice none 0 0)) := by
    have := Box.new (w.alloc (.cells #[.slice p g.length c] 29)) (.slice none 0 0) 29
    rw [size_alloc] at this
    exact Lib.hid this
  have HG := Lib.hid (hg0.below hbA.out)
  have HT := Lib.hid (hT.keep hbA.out)
  have hpos := hT.pos
  have h0 := hbA.out.size
  clear hr hg0 hT
  by_cases hok : GOk g
  case neg =>
    have hd := dec_false hok
    have Hok := Lib.hid hok
    clear hok
    go_enter Tryd.func23, Tryd.ntmps23
    go_wp2_with (go_at_call 38; refine (implGraphOk_any _ g _ HG.out).mono ?_; rintro e w2 ⟨rfl, hb2⟩; obtain ⟨nc, nf, nl, nB⟩ := BN.out.keep hb2)
    refine bodyPost_ret (v := .tuple #[.agg #[.slice none 0 0], .bool false]) (by simp [results, Tryd.results23, go_sem, nc]) rfl ⟨_, [], false, rfl, .inr ⟨rfl, rfl, .inl Hok.out⟩, dg_nil _ _, by simp, fun j => by simp [row], ?_⟩
    exact (hbA.out.trans (hb2.mono hbA.out.size)).setCell (by show w.heap.size ≤ w.heap.size + 1; omega) _
  have hd := dec_true hok
  obtain ⟨M, hM⟩ : ∃ M, M = 2 ^ g.length - 1 := ⟨_, rfl⟩
  obtain ⟨hn1, hn2, hn3⟩ := nOk_start hok hM
  have hle := hok.le
  have HM := Lib.hid hM
  have N1 := Lib.hid hn1
  have N2 := Lib.hid hn2
  have N3 := Lib.hid hn3
  have Hok := Lib.hid hok
  clear hok hM hn1 hn2 hn3
  go_enter Tryd.func23, Tryd.ntmps23
  go_upto_region 5 with (first
    | (go_at_call 38; refine (implGraphOk_any _ g _ HG.out).mono ?_; rintro e w2 ⟨rfl, hb2⟩; have hbx := (BX.out.keep hb2).cell; have s2 := hb2.size)
    | (go_at_call 41; refine (netsOf_any _ g _ (HG.out.below hb2) Hok.out).mono ?_; rintro e w3 ⟨x, rfl, hown3, hb3⟩; have hx3 := Sl.of_owns hown3 (by omega); obtain ⟨xp, xc, rfl⟩ := hx3.shape; have HX3 := Lib.hid hown3; have HT3 := Lib.hid ((HT.out.keep hb2).keep hb3); clear hx3 hown3)
    | (go_at_call 46; refine (all_any' _ _ _ M (by omega) HM.out _).mono ?_; rintro e w4 ⟨rfl, rfl⟩)
    | (go_at_call 63; refine (foldedOf_any _ _ (netL g) M w2.heap.size rfl N1.out N2.out _ (by rw [N3.out]; exact HX3.out) HT3.out (by rw [size_alloc, size_alloc] at s2; omega)).mono ?_; rintro e w5 ⟨ov, fs, l, a', rfl, hF, ho5, hx5, hlen5, hok5, hcnt5, hg5⟩))
  have hl16 := hok5.left16
  have hl32 : l < 4294967296 := by omega
  have s3 := hb3.size
  rw [size_alloc, size_alloc] at s2
  have HB5 := Lib.hid (below_grown (Below.refl w2.heap.size w3) HX3.out hg5 (Nat.le_refl _) hb3.size)
  have HT5 := Lib.hid (HT3.out.below HB5.out (by omega))
  obtain ⟨nc, nf, nl, nB⟩ := ((BN.out.keep hb2).keep hb3).below HB5.out (by have := (BN.out.keep hb2).lt; omega)
  have HBa := Lib.hid ((hbA.out.trans (hb2.mono h0)).trans ((hb3.trans HB5.out).mono (by omega)))
  have s5 := HB5.out.size
  have ha5 : a'.length = g.length := hlen5.trans N3.out
  obtain ⟨g', hFS, hSame⟩ := hF.same (by rw [HM.out]; exact same_start Hok.out)
  have HFS := Lib.hid hFS
  have HSame := Lib.hid hSame
  have HX5 := Lib.hid (Sl.of_owns hx5 (by omega))
  have Hok5 := Lib.hid hok5
  clear hF ho5 hx5 hok5 hFS hSame hg5 hlen5 hbx
  have hbl : (bitsOf l).length ≤ 16 := by omega
  by_cases hz : l = 0
  · subst hz
    go_wp2
    refine bodyPost_ret (v := .tuple #[.agg #[.slice none 0 0], .bool false]) (by simp [results, Tryd.results23, go_sem, nc]) rfl ⟨_, [], false, rfl, .inr ⟨rfl, rfl, .inr ⟨_, _, by have := HFS.out; rw [bitsOf_zero] at this; exact this⟩⟩, dg_nil _ _, by simp, fun j => by simp [row], ?_⟩
    exact HBa.out.setCell (by show w.heap.size ≤ w.heap.size + 1; omega) _
  · have hz2 : ((l : Int) == 0) = false := by simpa using hz
    have hne : natInts (bitsOf l) ≠ [] := fun e => hz ((bits_nil hl16).1 (by simpa [natInts] using e))
    have Hne := Lib.hid hne
    clear hne
    have hlk : ∀ v ∈ bitsOf l, v < a'.length := fun v hv => Hok5.out.inn v ((mem_left hl16).1 hv)
    have HLK := Lib.hid hlk
    have hm16 := Hok5.out.le
    clear hlk
    go_wp2_with (first
      | (go_at_call 48; refine (list_any _ l rfl hl32 _ HT5.out).mono ?_; rintro e w6 ⟨lv, rfl, ho6, hb6⟩; have HN6 := Lib.hid (numsInt_of _ _ _ _ ho6 (by omega)); clear ho6)
      | (go_at_call 75; refine (induced_any _ _ a' (bitsOf l) hm16 Hok5.out.lt HLK.out hbl _ (by rw [← ha5] at *; exact HX5.out.below hb6) HN6.out).mono ?_; rintro e w7 ⟨u7, rfl, ho7, hb7⟩; have hx7 : Sl _ _ _ (indN (bitsOf l).length (bitE a' (bitsOf l))).length _ := (by rw [indN_length]; exact Sl.of_owns ho7 (by omega)); have HX7 := Lib.hid hx7; clear ho7 hx7)
      | (go_at_call 76; refine (graph_any _ (indN (bitsOf l).length (bitE a' (bitsOf l))) (indN_lt16 hbl) (by rw [indN_length]; omega) _ HX7.out ((HT5.out.keep hb6).keep hb7)).mono ?_; rintro e w8 ⟨u8, rfl, hd8, hb8⟩; obtain ⟨p8, c8, rfl⟩ := hd8.shape; obtain ⟨mc, mf, ml, mB⟩ := ((Box.keep ⟨nc, nf, nl, nB⟩ hb6).keep hb7).keep hb8))
    have e8 : rowsOf (indN (bitsOf l).length (bitE a' (bitsOf l))) = indL g' (natInts (bitsOf l)) := by rw [rowsOf_indN hbl, bitE_ind HSame.out]
    have hll2 : (indL g' (natInts (bitsOf l))).length = (bitsOf l).length := by unfold indL; rw [matG_length, natInts_length]
    have s6 := hb6.size
    have s7 := hb7.size
    rw [e8, hll2] at hd8
    refine bodyPost_ret (v := .tuple #[.agg #[.slice p8 (bitsOf l).length c8], .bool true]) (by simp [results, Tryd.results23, go_sem, mc, rowsOf_length, indN_length]) rfl ⟨_, _, true, rfl, .inl ⟨rfl, Hok.out, _, _, _, HFS.out, Hne.out, rfl⟩, (hd8.setBox ⟨mc, mf, ml, mB⟩ _).base (by omega), by omega, fun j => Nat.le_trans (matG_row_le j) (by rw [natInts_length]; omega), ?_⟩
    exact (((HBa.out.trans (hb6.mono HBa.out.size)).trans (hb7.mono (by omega))).trans (hb8.mono (by omega))).setCell (by show w.heap.size ≤ w.heap.size + 1; omega) _

end Go.Proofs.YtfokiijcpkhllaaDoor

/- Walk: the reference's ThreeColours. -/
namespace Go.Proofs.YtfokiijcpkhllaaDoor
open Go.RowKit

theorem col_cell {w : World} {base b n : Nat} {O : List Int} (h : w.ownsRow base 2 1 (.slice (some ⟨b, 0, none⟩) n n) n (O.map (Value.int .i64))) {a : Nat} (ha : a < n) : w.cell? ⟨b, a, none⟩ = some (.int .i64 (O.getD a 0)) := by
  have hl : O.length = n := by simpa using h.1
  rw [h.cellAt a (by omega)]
  simp [hl, ha]
theorem colStep_map (O : List Int) (v : Nat) (A B : Int) : (O.map (Value.int .i64)).set v (.int .i64 (colN O ⟨v, A, B⟩)) = (colStep O ⟨v, A, B⟩).map (Value.int .i64) := by
  simp [colStep, List.map_set]

end Go.Proofs.YtfokiijcpkhllaaDoor

/- Walk: the program's ThreeColours. -/
namespace Go.Proofs.YtfokiijcpkhllaaDoor
open Go.RowKit

theorem ix20 (x y : Int) : ∀ w, (Instr.index 101 (.agg #[.int .i64 x, .int .i64 y]) (.int .i64 0)).run Tryd.prog w = .ok (.int .i64 x) w := fun _ => by kernel_rfl
theorem ix21 (x y : Int) : ∀ w, (Instr.index 101 (.agg #[.int .i64 x, .int .i64 y]) (.int .i64 1)).run Tryd.prog w = .ok (.int .i64 y) w := fun _ => by kernel_rfl

set_option maxRecDepth 100000 in
set_option maxHeartbeats 8000000 in
theorem implThreeColours_any (v : Value) (g : List (List Int)) (w : World) (hg : Gr w v g) (hT : Tab w) :
    Calls Tryd.prog 25 #[v] w fun e w' => ∃ (ov : Value) (ys : List Int), e = .returned (.tuple #[ov, .bool (dec (SerS g))]) ∧ ColS g ys ∧ ys.length ≤ 16 ∧
      w'.ownsRow w.heap.size 2 1 ov ys.length (ys.map (Value.int .i64)) ∧ Below w.heap.size w w' := by
  have hg0 := hg
  obtain ⟨u, rfl, hr⟩ := hg
  obtain ⟨p, c, rfl, _, _, _⟩ := hr.shape
  have hbA := Lib.hid (below_alloc w (.cells #[.slice p g.length c] 29))
  have HG := Lib.hid (hg0.below hbA.out)
  have BX := Lib.hid (Box.new w (.slice p g.length c) 29)
  have HT := Lib.hid (hT.keep hbA.out)
  clear hr hg0 hT
  by_cases hok : SerS g
  case neg =>
    have hd := dec_false hok
    have Hok := Lib.hid hok
    clear hok
    go_enter Tryd.func25, Tryd.ntmps25
    go_wp2_with (go_at_call 19; refine (implSeriesIn_any _ g _ HG.out HT.out).mono ?_; rintro e w2 ⟨rfl, hb2⟩)
    go_ret2
    refine ⟨_, [], by rw [hd]; rfl, .inr ⟨Hok.out, rfl⟩, by simp, ⟨rfl, .inl ⟨rfl, rfl⟩⟩, hbA.out.trans (hb2.mono hbA.out.size)⟩
  have hd := dec_true hok
  have hlen := hok.1.le
  have Hok := Lib.hid hok
  clear hok
  go_enter Tryd.func25, Tryd.ntmps25
  go_wp2_with (first
    | (at_make; refine wpList_mk ty_i64 rfl rfl rfl g.length rfl rfl rfl rfl (by omega) ?_; intro w4 hown4 hg4)
    | (go_at_call 19; refine (implSeriesIn_any _ g _ HG.out HT.out).mono ?_; rintro e w2 ⟨rfl, hb2⟩; have hbx := (BX.out.keep hb2).cell; have hbf := (BX.out.keep hb2).free)
    | (go_at_call 18; refine (implFoldedOf_any _ g _ (HG.out.below hb2) (HT.out.keep hb2)).mono ?_; rintro e w3 ⟨ov, lv, fs, l, rfl, hF, ho, hn, hfl, _, hb3⟩; have HF := Lib.hid hF; have hfd := Lib.hid (Fds.of_owns ho (by omega)); obtain ⟨fp, fc, rfl, _⟩ := hfd.out.shape; have hbx3 := ((BX.out.keep hb2).keep hb3).cell; clear hF ho hn))
  have hb4 := grown_below hg4
  have hb24 := (hb2.trans (hb3.mono hb2.size)).trans (hb4.mono (Nat.le_trans hb2.size hb3.size))
  have HB4 := Lib.hid (hbA.out.trans (hb24.mono hbA.out.size))
  have FD4 := Lib.hid (hfd.out.below hb4)
  have h3 : w.heap.size ≤ w3.heap.size := by have := hbA.out.size; have := hb2.size; have := hb3.size; omega
  have HO4 := Lib.hid hown4
  clear hbx hbf hb2 hb3 hb4 hb24 hg4 hfd hown4 hbx3
  go_loopw [7] (fun i wr => ∃ (k : Nat) (z : Int), k ≤ fs.length ∧ i = .int .i64 z ∧ z = (k : Int) - 1 ∧ wr.ownsRow w3.heap.size 2 1 (.slice (some ⟨w3.heap.size, 0, none⟩) g.length g.length) g.length ((colL g.length (fs.drop k)).map (Value.int .i64)) ∧ Fds wr (.slice fp fs.length fc) fs ∧ Below w.heap.size w wr ∧ w3.heap.size < wr.heap.size)
    (fun i _ => (intOf i + 1).toNat)
  case atStart => exact ⟨fs.length, _, Nat.le_refl _, rfl, rfl, by simpa [colL] using HO4.out, FD4.out, HB4.out, (HO4.out.lt w3.heap.size rfl).2⟩
  case round =>
    obtain ⟨k, z, hk, rfl, hz, hown, hfds, hbel, hw3⟩ := hrel
    cases k with
    | zero =>
      obtain rfl : z = -1 := by omega
      clear hfds hz
      go_wp2
      go_ret2
      exact ⟨_, colL g.length fs, by rw [hd]; rfl, .inl ⟨Hok.out, fs, l, HF.out, rfl⟩, by rw [colL_length]; omega, by rw [colL_length]; exact ownsRow_base hown h3, hbel⟩
    | succ j =>
      have hlt : j < fs.length := by omega
      obtain rfl : z = (j : Int) := by omega
      obtain ⟨_, _, e1, _, _, _, hat⟩ := id hfds.shape
      cases e1
      obtain ⟨b, o, rfl, hc1, hc2, hc3⟩ := hat.fold hlt
      have hin := foldedS_in HF.out fs[j] (List.getElem_mem _)
      have hst := Lib.hid (colL_step g.length fs j hlt)
      have hOl := colL_length g.length (fs.drop (j + 1))
      have hO3 := colL_lt g.length (fs.drop (j + 1))
      generalize colL g.length (fs.drop (j + 1)) = O at hown hst hOl hO3
      generalize fs[j] = f at hc1 hc2 hc3 hin hst
      obtain ⟨V, A, B⟩ := f
      obtain ⟨V0, V1, A0, A1, B0, B1, BA⟩ := hin
      simp only at hc1 hc2 hc3 V0 V1 A0 A1 B0 B1 BA
      have HBA := Lib.hid BA
      obtain ⟨v, rfl⟩ := Int.eq_ofNat_of_zero_le V0
      have hv : v < g.length := by omega
      have hO : ∀ a, a < g.length → O.getD a 0 = 0 ∨ O.getD a 0 = 1 ∨ O.getD a 0 = 2 := fun a ha => by
        have e : O.getD a 0 = O[a]'(by omega) := by simp [List.getElem?_eq_getElem (show a < O.length by omega)]
        rw [e]; exact hO3 _ (List.getElem_mem _)
      have HO := Lib.hid hO
      have Hfds := Lib.hid hfds
      have ba := fun ob => below_alloc2 wr (.cells #[.int .i64 v, .int .i64 A, .int .i64 B] 89) ob
      have Ba := Lib.hid ba
      have hN := Lib.hid (fun a (ha : a < g.length) ob => col_cell (ownsRow_below hown (ba ob)) ha)
      have Hown := Lib.hid hown
      have ne1 : w3.heap.size ≠ wr.heap.size := by omega
      have ne2 := Ne.symm ne1
      have ne3 : w3.heap.size ≠ wr.heap.size + 1 := by omega
      have ne4 := Ne.symm ne3
      clear hat hfds hz hown ba hO hO3 BA
      go_upto_block 2 with fail
      go_cut [] (fun wx => wx = (wr.alloc (.cells #[.int .i64 v, .int .i64 A, .int .i64 B] 89)).alloc (.cells #[.bool (decide (Taken O ⟨v, A, B⟩ 0)), .bool (decide (Taken O ⟨v, A, B⟩ 1)), .bool (decide (Taken O ⟨v, A, B⟩ 2))] 100))
      case first =>
        clear hc1 hc2 hc3
        by_cases hA : 0 ≤ A
        · obtain ⟨a, rfl⟩ := Int.eq_ofNat_of_zero_le hA
          have hca := hN.out a (by omega)
          have hO1 := HO.out a (by omega)
          by_cases hB : 0 ≤ B
          · obtain ⟨b', rfl⟩ := Int.eq_ofNat_of_zero_le hB
            have hcb := hN.out b' (by omega)
            have hO2 := HO.out b' (by omega)
            have hT : Hid (∀ k : Int, Taken O ⟨v, a, b'⟩ k ↔ (O.getD a 0 = k ∨ O.getD b' 0 = k)) := Lib.hid (by intro k; simp [Taken])
            rcases hO1 with h1 | h1 | h1 <;> rcases hO2 with h2 | h2 | h2
            all_goals
              rw [h1] at hca
              rw [h2] at hcb
              rw [h1, h2] at hT
              clear h1 h2
              have i0 := ix20 a b'
              have i1 := ix21 a b'
              go_upto_region 10 with fail
              go_rounds 3
              go_meet
              have hT' := hT.out
              simp [hT']
          · have hT : Hid (∀ k : Int, Taken O ⟨v, a, B⟩ k ↔ (O.getD a 0 = k)) := Lib.hid (by intro k; simp [Taken, hB])
            rcases hO1 with h1 | h1 | h1
            all_goals
              rw [h1] at hca
              rw [h1] at hT
              clear h1
              have i0 := ix20 a B
              have i1 := ix21 a B
              go_upto_region 10 with fail
              go_rounds 3
              go_meet
              have hT' := hT.out
              simp [hT']
        · have hB : ¬ 0 ≤ B := fun h => hA (HBA.out h)
          have hT : Hid (∀ k : Int, ¬ Taken O ⟨v, A, B⟩ k) := Lib.hid (by intro k; simp [Taken, hA, hB])
          have i0 := ix20 A B
          have i1 := ix21 A B
          go_upto_region 10 with fail
          go_rounds 3
          go_meet
          have hT' := hT.out
          simp [hT']
      case rest =>
        obtain rfl := hcut
        have key : ∀ (k : Int), colN O ⟨v, A, B⟩ = k → True := fun _ _ => trivial
        have fin : ∀ (t : Array Value) (W : World), W = ((wr.setCell ⟨w3.heap.size, v, none⟩ (.int .i64 (colN O ⟨v, A, B⟩))).alloc (.cells #[.int .i64 v, .int .i64 A, .int .i64 B] 89)).alloc (.cells t 100) →
            W.ownsRow w3.heap.size 2 1 (.slice (some ⟨w3.heap.size, 0, none⟩) g.length g.length) g.length ((colL g.length (fs.drop j)).map (Value.int .i64)) ∧ Fds W (.slice (some ⟨b, o, none⟩) fs.length fc) fs ∧ Below w.heap.size w W ∧ w3.heap.size < W.heap.size := by
          rintro t W rfl
          obtain ⟨ho2, hg2⟩ := Hown.out.stored v (.int .i64 (colN O ⟨v, A, B⟩))
          have hb2 := below_grown hbel Hown.out hg2 h3 (by omega)
          have s2 := hg2.size
          have ba2 := below_alloc2 (wr.setCell ⟨w3.heap.size, v, none⟩ (.int .i64 (colN O ⟨v, A, B⟩))) (.cells #[.int .i64 v, .int .i64 A, .int .i64 B] 89) (.cells t 100)
          refine ⟨?_, Sl.below (Sl.other Hfds.out Hown.out hg2 (by decide)) ba2, hb2.trans (ba2.mono hb2.size), by rw [size_alloc, size_alloc]; omega⟩
          rw [hst.out, ← colStep_map]
          exact ownsRow_below ho2 ba2
        have Fin := Lib.hid fin
        have hf := fun ob => (ownsRow_below Hown.out (Ba.out ob)).frozenAt v
        have hcv := hN.out v hv
        clear hc1 hc2 hc3 fin key
        by_cases h0 : Taken O ⟨v, A, B⟩ 0
        · by_cases h1 : Taken O ⟨v, A, B⟩ 1
          · have hcol : colN O ⟨v, A, B⟩ = 2 := by simp [colN, h0, h1]
            have h2 : ¬ Taken O ⟨v, A, B⟩ 2 := by have := colN_free (out := O) (f := ⟨v, A, B⟩); rw [hcol] at this; exact this
            rw [decide_eq_true h0, decide_eq_true h1, decide_eq_false h2]
            rw [hcol] at Fin
            clear h0 h1 h2 hcol
            go_upto_region 16 with fail
            go_rounds 4
            go_roundw
            case rel => obtain ⟨f1, f2, f3, f4⟩ := Fin.out _ _ rfl; exact ⟨j, _, by omega, by go_num, rfl, f1, f2, f3, f4⟩
            case measure => simp [intOf]
          · have hcol : colN O ⟨v, A, B⟩ = 1 := by simp [colN, h0, h1]
            rw [decide_eq_true h0, decide_eq_false h1]
            rw [hcol] at Fin
            clear h0 h1 hcol
            generalize decide (Taken O ⟨v, A, B⟩ 2) = t2
            go_upto_region 16 with fail
            go_rounds 4
            go_roundw
            case rel => obtain ⟨f1, f2, f3, f4⟩ := Fin.out _ _ rfl; exact ⟨j, _, by omega, by go_num, rfl, f1, f2, f3, f4⟩
            case measure => simp [intOf]
        · have hcol : colN O ⟨v, A, B⟩ = 0 := by simp [colN, h0]
          rw [decide_eq_false h0]
          rw [hcol] at Fin
          clear h0 hcol
          generalize decide (Taken O ⟨v, A, B⟩ 2) = t2
          generalize decide (Taken O ⟨v, A, B⟩ 1) = t1
          go_upto_region 16 with fail
          go_rounds 4
          go_roundw
          case rel => obtain ⟨f1, f2, f3, f4⟩ := Fin.out _ _ rfl; exact ⟨j, _, by omega, by go_num, rfl, f1, f2, f3, f4⟩
          case measure => simp [intOf]

end Go.Proofs.YtfokiijcpkhllaaDoor

/- Walk: the program's TwoOrder. -/
namespace Go.Proofs.YtfokiijcpkhllaaDoor
open Go.RowKit

set_option maxRecDepth 100000 in
set_option maxHeartbeats 4000000 in
theorem implTwoOrder_any (v : Value) (g : List (List Int)) (w : World) (hg : Gr w v g) (hT : Tab w) :
    Calls Tryd.prog 24 #[v] w fun e w' => ∃ (ov : Value) (ys : List Int), e = .returned (.tuple #[ov, .bool (dec (SerS g))]) ∧ TwoS g ys ∧ ys.length ≤ 16 ∧
      w'.ownsRow w.heap.size 2 1 ov ys.length (ys.map (Value.int .i64)) ∧ Below w.heap.size w w' := by
  have hg0 := hg
  obtain ⟨u, rfl, hr⟩ := hg
  obtain ⟨p, c, rfl, _, _, _⟩ := hr.shape
  have hbA := Lib.hid (below_alloc w (.cells #[.slice p g.length c] 29))
  have HG := Lib.hid (hg0.below hbA.out)
  have BX := Lib.hid (Box.new w (.slice p g.length c) 29)
  have HT := Lib.hid (hT.keep hbA.out)
  clear hr hg0 hT
  by_cases hok : SerS g
  case neg =>
    have hd := dec_false hok
    have Hok := Lib.hid hok
    clear hok
    go_enter Tryd.func24, Tryd.ntmps24
    go_wp2_with (go_at_call 19; refine (implSeriesIn_any _ g _ HG.out HT.out).mono ?_; rintro e w2 ⟨rfl, hb2⟩)
    go_ret2
    exact ⟨.slice none 0 0, [], by rw [hd]; rfl, .inr ⟨Hok.out, rfl⟩, by simp, ⟨rfl, .inl ⟨rfl, rfl⟩⟩, hbA.out.trans (hb2.mono hbA.out.size)⟩
  have hd := dec_true hok
  have Hok := Lib.hid hok
  clear hok
  go_enter Tryd.func24, Tryd.ntmps24
  go_wp2_with (first
    | (go_at_call 19; refine (implSeriesIn_any _ g _ HG.out HT.out).mono ?_; rintro e w2 ⟨rfl, hb2⟩; have hbx := (BX.out.keep hb2).cell; have hbf := (BX.out.keep hb2).free)
    | (go_at_call 18; refine (implFoldedOf_any _ g _ (HG.out.below hb2) (HT.out.keep hb2)).mono ?_; rintro e w3 ⟨ov, lv, fs, l, rfl, hF, ho, hn, hfl, _, hb3⟩; have HF := Lib.hid hF; have hfd := Lib.hid (Fds.of_owns ho (by omega)); obtain ⟨fp, fc, rfl, _⟩ := hfd.out.shape))
  clear ho hn hF
  have hb23 := hb2.trans (hb3.mono hb2.size)
  have hbW := hbA.out.trans (hb23.mono hbA.out.size)
  have hbN := Lib.hid (hbW.alloc hbW.size (.cells #[] 2))
  have hfd' := Lib.hid (hfd.out.below (below_alloc w3 (.cells #[] 2)))
  have hoN := Lib.hid (ownsRow_base (ownsRow_empty w3 2 1) hbW.size)
  clear hbx hbf hb2 hb3 hb23 hbW hfd
  go_loopw [6, 8, 20] (fun u _ i wr => ∃ k : Nat, k ≤ fs.length ∧ i = .int .i64 k ∧ wr.ownsRow w.heap.size 2 1 u k ((fs.take k).map fun f => Value.int .i64 f.V) ∧ Fds wr (.slice fp fs.length fc) fs ∧ Below w.heap.size w wr)
    (fun _ _ i _ => fs.length - (intOf i).toNat)
  case atStart => exact ⟨0, Nat.zero_le _, rfl, hoN.out, hfd'.out, hbN.out⟩
  case round =>
    obtain ⟨k, hk, rfl, hown, hfds, hbel⟩ := hrel
    have hsz := hbel.size
    by_cases hlt : k < fs.length
    · obtain ⟨_, _, e1, _, _, _, hat⟩ := id hfds.shape
      cases e1
      obtain ⟨b, o, rfl, c0, c1, c2⟩ := hat.fold hlt
      have Hfds := Lib.hid hfds
      clear hat hfds
      have ht := Lib.hid (take_snoc fs k hlt)
      have hbox := below_alloc wr (.cells #[.int .i64 fs[k].V, .int .i64 fs[k].A, .int .i64 fs[k].B] 89)
      have HO := Lib.hid (ownsRow_below hown hbox)
      have HB := Lib.hid (hbel.alloc hsz (.cells #[.int .i64 fs[k].V, .int .i64 fs[k].A, .int .i64 fs[k].B] 89))
      have HFd := Lib.hid (Hfds.out.below hbox)
      clear hbox hown
      go_wp2_with (at_builtin; refine wpList_app1 ty_i64 rfl rfl rfl HO.out (by rw [size_alloc]; rfl) rfl (by omega) HB.out.size ?_; intro v' w1 hown' hg _)
      go_roundw
      case rel =>
        refine ⟨k + 1, by omega, by go_num, ?_, Sl.other HFd.out HO.out hg (by decide), below_grown HB.out HO.out hg (Nat.le_refl _) HB.out.size⟩
        rw [ht.out, List.map_append]; exact hown'
      case measure => simp [intOf]; omega
    · obtain rfl : k = fs.length := by omega
      clear hfds
      go_wp2
      go_ret2
      rw [List.take_length] at hown
      exact ⟨u6, fs.map Fd.V, by rw [hd]; rfl, .inl ⟨Hok.out, fs, l, HF.out, rfl⟩, by simpa using hfl, by rw [List.length_map, List.map_map]; exact hown, hbel⟩

end Go.Proofs.YtfokiijcpkhllaaDoor
