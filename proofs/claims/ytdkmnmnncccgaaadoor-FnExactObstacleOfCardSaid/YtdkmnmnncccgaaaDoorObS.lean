/- Walks: the reference's ObstacleOf. -/
import Derived.Test.YtdkmnmnncccgaaaDoorObP
import Derived.Test.YtdkmnmnncccgaaaDoorLexW
import Derived.Test.YtdkmnmnncccgaaaDoorPrB
namespace Go.Proofs.YtdkmnmnncccgaaaDoor
open Go.RowKit

theorem bit_pos {s : Nat} (h : bitsOf s = []) (h16 : s < 65536) : s = 0 := by
  rw [← mask_bitsOf h16, h]
  rfl

set_option maxRecDepth 100000 in
set_option maxHeartbeats 4000000 in
theorem specObstacleOf_any (v : Value) (g : List (List Int)) (w : World) (hg : Gr w v g) :
    Calls Tryd.prog 7 #[v] w fun e w' => ∃ (ov : Value) (ys : List Int), e = .returned (.tuple #[ov, .bool (dec (ObB g))]) ∧ ObS g ys ∧ ys.length ≤ 16 ∧
      w'.ownsRow w.heap.size 2 1 ov ys.length (ys.map (Value.int .i64)) ∧ Below w.heap.size w w' := by
  have hg0 := hg
  obtain ⟨u, rfl, hr⟩ := hg
  obtain ⟨p, c, rfl, _, _, _⟩ := hr.shape
  have HG := Lib.hid hg0
  have hbA := Lib.hid (below_alloc w (.cells #[.slice p g.length c] 29))
  have BX := Lib.hid (Box.new w (.slice p g.length c) 29)
  have bx0 := BX.out.cell
  clear hr hg0
  by_cases hok : GOk g ∧ g.length ≤ 8
  case neg =>
    obtain ⟨hno, hS⟩ := obS_out hok
    have hnd := dec_false hno
    have HS := Lib.hid hS
    clear hno hS
    by_cases hg1 : GOk g
    · have hd := dec_true hg1
      have h8 : 8 < g.length := by
        refine Nat.lt_of_not_le fun h => hok ⟨hg1, h⟩
      clear hok hg1
      go_enter Tryd.func7, Tryd.ntmps7
      go_wp2_with (go_at_call 23; refine (specGraphOk_any _ g _ (HG.out.below hbA.out)).mono ?_; rintro e w2 ⟨he, hb2⟩; rw [hd] at he; subst he; have bx2 := (BX.out.keep hb2).cell)
      go_ret2
      have s2 := hb2.size
      rw [size_alloc] at s2
      exact ⟨_, [], by rw [hnd]; rfl, HS.out, by simp, ownsRow_base (ownsRow_empty w2 2 1) (by omega), (hbA.out.trans (hb2.mono hbA.out.size)).alloc (by omega) _⟩
    · have hd := dec_false hg1
      clear hok hg1
      go_enter Tryd.func7, Tryd.ntmps7
      go_wp2_with (go_at_call 23; refine (specGraphOk_any _ g _ (HG.out.below hbA.out)).mono ?_; rintro e w2 ⟨he, hb2⟩; rw [hd] at he; subst he)
      go_ret2
      have s2 := hb2.size
      rw [size_alloc] at s2
      exact ⟨_, [], by rw [hnd]; rfl, HS.out, by simp, ownsRow_base (ownsRow_empty w2 2 1) (by omega), (hbA.out.trans (hb2.mono hbA.out.size)).alloc (by omega) _⟩
  have hd := dec_true hok.1
  have h8 := hok.2
  have h16 := hok.1.le
  have Hok := Lib.hid hok
  obtain ⟨M, hM⟩ : ∃ M, M = 2 ^ g.length := ⟨_, rfl⟩
  have hM1 : 1 ≤ M := by rw [hM]; exact Nat.two_pow_pos _
  have hM8 : M ≤ 256 := by
    rw [hM]
    calc 2 ^ g.length ≤ 2 ^ 8 := Nat.pow_le_pow_right (by decide) h8
      _ = 256 := by decide
  have HM := Lib.hid hM
  clear hok hM
  go_enter Tryd.func7, Tryd.ntmps7
  go_wp2_with (go_at_call 23; refine (specGraphOk_any _ g _ (HG.out.below hbA.out)).mono ?_; rintro e w2 ⟨he, hb2⟩; rw [hd] at he; subst he; have bx2 := (BX.out.keep hb2).cell)
  have s2 := hb2.size
  rw [size_alloc] at s2
  have HB2 := Lib.hid ((hbA.out.trans (hb2.mono hbA.out.size)).alloc (show w.heap.size ≤ w2.heap.size by omega) (.cells #[] 2))
  have BX2 := Lib.hid ((BX.out.keep hb2).alloc (.cells #[] 2))
  have HO2 := Lib.hid (ownsRow_empty w2 2 1)
  clear hb2 bx2 bx0
  go_loopw [4, 5] (fun o i wr => ∃ (best : List Nat) (k : Nat), 1 ≤ k ∧ k ≤ M ∧ i = .int .i64 k ∧ best.length ≤ 16 ∧ BestP (StuckN g) k best ∧ wr.ownsRow (w.heap.size + 1) 2 1 o best.length ((natInts best).map (Value.int .i64)) ∧ Below w.heap.size w wr ∧ Box wr w.heap.size 29 (.slice p g.length c)) (fun _ i _ => M - (intOf i).toNat)
  case atStart => exact ⟨[], 1, Nat.le_refl _, hM1, rfl, by simp, best_start (stuck_zero g), ownsRow_base HO2.out (by omega), HB2.out, BX2.out⟩
  case round =>
    obtain ⟨best, k, hk1, hk, rfl, hb16, hbest, hown, hbel, hbx⟩ := hrel
    have hsz := hbel.size
    have bx := hbx.cell
    have HBEL := Lib.hid hbel
    have HBX := Lib.hid hbx
    have HOWN := Lib.hid hown
    have HBEST := Lib.hid hbest
    obtain ⟨op, oc, rfl⟩ := owns_shapeA hown
    have hlt1 : w.heap.size + 1 ≤ wr.heap.size := hbx.lt
    clear hbest hown hbel hbx
    by_cases hlt : k < M
    · have hlti : (k : Int) < (M : Int) := by omega
      have HK := Lib.hid (show k < 2 ^ g.length by rw [← HM.out]; exact hlt)
      obtain ⟨hcand, hk16⟩ := cand_bits h16 HK.out
      have HC := Lib.hid hcand
      have hkl : (bitsOf k).length ≤ 16 := by
        by_cases he : bitsOf k = []
        · rw [he]; simp
        · have := rising_room hcand.ris hcand.inn he
          omega
      have hne : bitsOf k ≠ [] := fun he => by
        have := bit_pos he hk16
        omega
      have HNE := Lib.hid hne
      clear hcand hne
      by_cases hstuck : StuckN g k
      · have HSTUCK := Lib.hid hstuck
        clear hstuck
        by_cases hb0 : best = []
        · subst hb0
          go_wp2_with (first
                    | (go_at_call 27; refine (l18Prune_any _ _ g (natInts (bitsOf k)) Hok.out.1 (by rw [natInts_length]; exact hkl) (fun x hx => by obtain ⟨i, hi, rfl⟩ := mem_natInts.1 hx; have := (HC.out.inn i hi).2; omega) (natInts_rising (bitsOf_rising k)) _ ((HG.out.below HBEL.out).below hb4) HS4.out).mono ?_; rintro e w6 ⟨pv, lv, fs, l, rfl, hF, ho6, hn6, hf6, hl6, hb6⟩; have hll : 0 < l.length := List.length_pos_iff.2 ((stuck_iff hF).1 HSTUCK.out); obtain ⟨lp, lc, rfl, _⟩ := id hn6; clear hF ho6 hn6)
                    | (go_at_call 25; refine (l12Set_any _ k rfl (by omega) _).mono ?_; rintro e w4 ⟨sv, rfl, ho4, hb4⟩; obtain ⟨sp, sc, rfl⟩ := owns_shapeA ho4; have HO4 := Lib.hid ho4; have bx4 := (HBX.out.keep hb4).cell; have HS4 := Lib.hid (Nums.of_owns (xs := natInts (bitsOf k)) ho4 (natInts_length _).symm (by omega)); clear ho4)
                    | (go_at_call 24; refine (l12Bit_any _ g.length rfl (by omega) _).mono ?_; rintro e w3 ⟨he, hw3⟩; rw [← HM.out] at he; subst he; subst hw3))
          go_roundw
          case rel =>
            have hba := hb4
            have hbb := hba.trans (hb6.mono hba.size)
            exact ⟨bitsOf k, k + 1, by omega, by omega, by go_num, hkl, best_new HBEST.out HSTUCK.out HNE.out (.inl rfl), ownsRow_base (ownsRow_below HO4.out hb6) (by omega), HBEL.out.trans (hbb.mono HBEL.out.size), HBX.out.keep hbb⟩
          case measure => simp [intOf]; omega
        · have hbl : 0 < best.length := List.length_pos_iff.2 hb0
          have HB0 := Lib.hid hb0
          clear hb0
          by_cases hlp : lessP (bitsOf k) best
          · have hls := dec_true hlp
            have HLS := Lib.hid hlp
            clear hlp
            go_wp2_with (first
                      | (go_at_call 27; refine (l18Prune_any _ _ g (natInts (bitsOf k)) Hok.out.1 (by rw [natInts_length]; exact hkl) (fun x hx => by obtain ⟨i, hi, rfl⟩ := mem_natInts.1 hx; have := (HC.out.inn i hi).2; omega) (natInts_rising (bitsOf_rising k)) _ ((HG.out.below HBEL.out).below (hb4.trans (hb5.mono hb4.size))) (HS4.out.below hb5)).mono ?_; rintro e w6 ⟨pv, lv, fs, l, rfl, hF, ho6, hn6, hf6, hl6, hb6⟩; have hll : 0 < l.length := List.length_pos_iff.2 ((stuck_iff hF).1 HSTUCK.out); obtain ⟨lp, lc, rfl, _⟩ := id hn6; clear hF ho6 hn6)
                      | (go_at_call 26; refine (l1Less_any _ _ (bitsOf k) best _ HS4.out (Nums.of_owns (xs := natInts best) (ownsRow_below HOWN.out hb4) (natInts_length _).symm (by omega))).mono ?_; rintro e w5 ⟨he, q5, hw5⟩; rw [hls] at he; subst he; have hb5 : Below w4.heap.size w4 w5 := hw5 ▸ below_dN (Below.refl _ _) q5; have bx5 := hb5.at' bx4; clear hw5)
                      | (go_at_call 25; refine (l12Set_any _ k rfl (by omega) _).mono ?_; rintro e w4 ⟨sv, rfl, ho4, hb4⟩; obtain ⟨sp, sc, rfl⟩ := owns_shapeA ho4; have HO4 := Lib.hid ho4; have bx4 := (HBX.out.keep hb4).cell; have HS4 := Lib.hid (Nums.of_owns (xs := natInts (bitsOf k)) ho4 (natInts_length _).symm (by omega)); clear ho4)
                      | (go_at_call 24; refine (l12Bit_any _ g.length rfl (by omega) _).mono ?_; rintro e w3 ⟨he, hw3⟩; rw [← HM.out] at he; subst he; subst hw3))
            go_roundw
            case rel =>
              have hba := (hb4.trans (hb5.mono hb4.size))
              have hbb := hba.trans (hb6.mono hba.size)
              exact ⟨bitsOf k, k + 1, by omega, by omega, by go_num, hkl, best_new HBEST.out HSTUCK.out HNE.out (.inr HLS.out), ownsRow_base (ownsRow_below (ownsRow_below HO4.out hb5) hb6) (by omega), HBEL.out.trans (hbb.mono HBEL.out.size), HBX.out.keep hbb⟩
            case measure => simp [intOf]; omega
          · have hls := dec_false hlp
            have HLS := Lib.hid hlp
            clear hlp
            go_wp2_with (first
                      | (go_at_call 26; refine (l1Less_any _ _ (bitsOf k) best _ HS4.out (Nums.of_owns (xs := natInts best) (ownsRow_below HOWN.out hb4) (natInts_length _).symm (by omega))).mono ?_; rintro e w5 ⟨he, q5, hw5⟩; rw [hls] at he; subst he; have hb5 : Below w4.heap.size w4 w5 := hw5 ▸ below_dN (Below.refl _ _) q5; have bx5 := hb5.at' bx4; clear hw5)
                      | (go_at_call 25; refine (l12Set_any _ k rfl (by omega) _).mono ?_; rintro e w4 ⟨sv, rfl, ho4, hb4⟩; obtain ⟨sp, sc, rfl⟩ := owns_shapeA ho4; have HO4 := Lib.hid ho4; have bx4 := (HBX.out.keep hb4).cell; have HS4 := Lib.hid (Nums.of_owns (xs := natInts (bitsOf k)) ho4 (natInts_length _).symm (by omega)); clear ho4)
                      | (go_at_call 24; refine (l12Bit_any _ g.length rfl (by omega) _).mono ?_; rintro e w3 ⟨he, hw3⟩; rw [← HM.out] at he; subst he; subst hw3))
            go_roundw
            case rel =>
              have hbb := hb4.trans (hb5.mono hb4.size)
              exact ⟨best, k + 1, by omega, by omega, by go_num, hb16, best_keep HBEST.out (.inr ⟨HB0.out, HLS.out⟩), ownsRow_below HOWN.out hbb, HBEL.out.trans (hbb.mono HBEL.out.size), HBX.out.keep hbb⟩
            case measure => simp [intOf]; omega
      · have HSTUCK := Lib.hid hstuck
        clear hstuck
        by_cases hb0 : best = []
        · subst hb0
          go_wp2_with (first
                    | (go_at_call 27; refine (l18Prune_any _ _ g (natInts (bitsOf k)) Hok.out.1 (by rw [natInts_length]; exact hkl) (fun x hx => by obtain ⟨i, hi, rfl⟩ := mem_natInts.1 hx; have := (HC.out.inn i hi).2; omega) (natInts_rising (bitsOf_rising k)) _ ((HG.out.below HBEL.out).below hb4) HS4.out).mono ?_; rintro e w6 ⟨pv, lv, fs, l, rfl, hF, ho6, hn6, hf6, hl6, hb6⟩; obtain rfl : l = [] := Decidable.byContradiction fun h => HSTUCK.out ((stuck_iff hF).2 h); obtain ⟨lp, lc, rfl, _⟩ := id hn6; clear hF ho6 hn6)
                    | (go_at_call 25; refine (l12Set_any _ k rfl (by omega) _).mono ?_; rintro e w4 ⟨sv, rfl, ho4, hb4⟩; obtain ⟨sp, sc, rfl⟩ := owns_shapeA ho4; have HO4 := Lib.hid ho4; have bx4 := (HBX.out.keep hb4).cell; have HS4 := Lib.hid (Nums.of_owns (xs := natInts (bitsOf k)) ho4 (natInts_length _).symm (by omega)); clear ho4)
                    | (go_at_call 24; refine (l12Bit_any _ g.length rfl (by omega) _).mono ?_; rintro e w3 ⟨he, hw3⟩; rw [← HM.out] at he; subst he; subst hw3))
          go_roundw
          case rel =>
            have hba := hb4
            have hbb := hba.trans (hb6.mono hba.size)
            exact ⟨_, k + 1, by omega, by omega, by go_num, hb16, best_keep HBEST.out (.inl HSTUCK.out), ownsRow_below HOWN.out hbb, HBEL.out.trans (hbb.mono HBEL.out.size), HBX.out.keep hbb⟩
          case measure => simp [intOf]; omega
        · have hbl : 0 < best.length := List.length_pos_iff.2 hb0
          have HB0 := Lib.hid hb0
          clear hb0
          by_cases hlp : lessP (bitsOf k) best
          · have hls := dec_true hlp
            have HLS := Lib.hid hlp
            clear hlp
            go_wp2_with (first
                      | (go_at_call 27; refine (l18Prune_any _ _ g (natInts (bitsOf k)) Hok.out.1 (by rw [natInts_length]; exact hkl) (fun x hx => by obtain ⟨i, hi, rfl⟩ := mem_natInts.1 hx; have := (HC.out.inn i hi).2; omega) (natInts_rising (bitsOf_rising k)) _ ((HG.out.below HBEL.out).below (hb4.trans (hb5.mono hb4.size))) (HS4.out.below hb5)).mono ?_; rintro e w6 ⟨pv, lv, fs, l, rfl, hF, ho6, hn6, hf6, hl6, hb6⟩; obtain rfl : l = [] := Decidable.byContradiction fun h => HSTUCK.out ((stuck_iff hF).2 h); obtain ⟨lp, lc, rfl, _⟩ := id hn6; clear hF ho6 hn6)
                      | (go_at_call 26; refine (l1Less_any _ _ (bitsOf k) best _ HS4.out (Nums.of_owns (xs := natInts best) (ownsRow_below HOWN.out hb4) (natInts_length _).symm (by omega))).mono ?_; rintro e w5 ⟨he, q5, hw5⟩; rw [hls] at he; subst he; have hb5 : Below w4.heap.size w4 w5 := hw5 ▸ below_dN (Below.refl _ _) q5; have bx5 := hb5.at' bx4; clear hw5)
                      | (go_at_call 25; refine (l12Set_any _ k rfl (by omega) _).mono ?_; rintro e w4 ⟨sv, rfl, ho4, hb4⟩; obtain ⟨sp, sc, rfl⟩ := owns_shapeA ho4; have HO4 := Lib.hid ho4; have bx4 := (HBX.out.keep hb4).cell; have HS4 := Lib.hid (Nums.of_owns (xs := natInts (bitsOf k)) ho4 (natInts_length _).symm (by omega)); clear ho4)
                      | (go_at_call 24; refine (l12Bit_any _ g.length rfl (by omega) _).mono ?_; rintro e w3 ⟨he, hw3⟩; rw [← HM.out] at he; subst he; subst hw3))
            go_roundw
            case rel =>
              have hba := (hb4.trans (hb5.mono hb4.size))
              have hbb := hba.trans (hb6.mono hba.size)
              exact ⟨_, k + 1, by omega, by omega, by go_num, hb16, best_keep HBEST.out (.inl HSTUCK.out), ownsRow_below HOWN.out hbb, HBEL.out.trans (hbb.mono HBEL.out.size), HBX.out.keep hbb⟩
            case measure => simp [intOf]; omega
          · have hls := dec_false hlp
            have HLS := Lib.hid hlp
            clear hlp
            go_wp2_with (first
                      | (go_at_call 26; refine (l1Less_any _ _ (bitsOf k) best _ HS4.out (Nums.of_owns (xs := natInts best) (ownsRow_below HOWN.out hb4) (natInts_length _).symm (by omega))).mono ?_; rintro e w5 ⟨he, q5, hw5⟩; rw [hls] at he; subst he; have hb5 : Below w4.heap.size w4 w5 := hw5 ▸ below_dN (Below.refl _ _) q5; have bx5 := hb5.at' bx4; clear hw5)
                      | (go_at_call 25; refine (l12Set_any _ k rfl (by omega) _).mono ?_; rintro e w4 ⟨sv, rfl, ho4, hb4⟩; obtain ⟨sp, sc, rfl⟩ := owns_shapeA ho4; have HO4 := Lib.hid ho4; have bx4 := (HBX.out.keep hb4).cell; have HS4 := Lib.hid (Nums.of_owns (xs := natInts (bitsOf k)) ho4 (natInts_length _).symm (by omega)); clear ho4)
                      | (go_at_call 24; refine (l12Bit_any _ g.length rfl (by omega) _).mono ?_; rintro e w3 ⟨he, hw3⟩; rw [← HM.out] at he; subst he; subst hw3))
            go_roundw
            case rel =>
              have hbb := hb4.trans (hb5.mono hb4.size)
              exact ⟨best, k + 1, by omega, by omega, by go_num, hb16, best_keep HBEST.out (.inr ⟨HB0.out, HLS.out⟩), ownsRow_below HOWN.out hbb, HBEL.out.trans (hbb.mono HBEL.out.size), HBX.out.keep hbb⟩
            case measure => simp [intOf]; omega
    · obtain rfl : k = M := by omega
      have hE := Lib.hid (best_end (P := StuckN g) (n := g.length) (best := best) (by rw [← HM.out]; exact HBEST.out))
      go_wp2_with (go_at_call 24; refine (l12Bit_any _ g.length rfl (by omega) _).mono ?_; rintro e w3 ⟨he, hw3⟩; rw [← HM.out] at he; subst he; subst hw3)
      go_ret2
      rcases hE.out with ⟨rfl, hn⟩ | ⟨hne, s, hL, rfl⟩
      · obtain ⟨hno, hS⟩ := obS_none hn
        exact ⟨_, [], by rw [dec_false hno]; rfl, hS, by simp, ownsRow_base HOWN.out (by omega), HBEL.out⟩
      · obtain ⟨hyes, hS, hl16⟩ := obS_some Hok.out.1 Hok.out.2 hL
        have hpos : 0 < (bitsOf s).length := List.length_pos_iff.2 hne
        exact ⟨.slice op (bitsOf s).length oc, natInts (bitsOf s), by rw [dec_true hyes]; simp [hpos], hS, hl16, by rw [natInts_length]; exact ownsRow_base HOWN.out (by omega), HBEL.out⟩

end Go.Proofs.YtdkmnmnncccgaaaDoor
