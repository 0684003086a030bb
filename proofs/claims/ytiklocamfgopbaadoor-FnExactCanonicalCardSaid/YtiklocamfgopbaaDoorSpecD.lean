/- Walks: the reference's SeriesIn. -/
import Derived.Test.YtiklocamfgopbaaDoorSpecC
namespace Go.Proofs.YtiklocamfgopbaaDoor
open Go.RowKit

set_option maxRecDepth 100000 in
set_option maxHeartbeats 4000000 in
theorem specSeriesIn_any (v : Value) (g : List (List Int)) (w : World) (hg : Gr w v g) :
    Calls Tryd.prog 22 #[v] w fun e w' => e = .returned (.bool (dec (SerS g))) ∧ Below w.heap.size w w' := by
  have hg0 := hg
  obtain ⟨u, rfl, hr⟩ := hg
  obtain ⟨p, c, rfl, _, _, _⟩ := hr.shape
  have HG := Lib.hid hg0
  have hbA := Lib.hid (below_alloc w (.cells #[.slice p g.length c] 30))
  have BX := Lib.hid (Box.new w (.slice p g.length c) 30)
  clear hr hg0
  by_cases hok : GOk g
  case neg =>
    have hd := dec_false hok
    have Hok := Lib.hid hok
    clear hok
    go_enter Tryd.func22, Tryd.ntmps22
    go_wp2_with (go_at_call 21; refine (specGraphOk_any _ g _ (HG.out.below hbA.out)).mono ?_; rintro e w2 ⟨rfl, hb2⟩)
    go_ret
    exact ⟨by rw [dec_false (fun h => Hok.out h.1)]; rfl, hbA.out.trans (hb2.mono hbA.out.size)⟩
  have hd := dec_true hok
  have h16 := hok.le
  have Hrl := Lib.hid (gOk_row_le hok)
  have Hok := Lib.hid hok
  clear hok
  go_enter Tryd.func22, Tryd.ntmps22
  go_wp2_with fail
  go_wp2_with (go_at_call 21; refine (specGraphOk_any _ g _ (HG.out.below hbA.out)).mono ?_; rintro e w2 ⟨rfl, hb2⟩)
  have hb2' : Below w.heap.size w w2 := hbA.out.trans (hb2.mono hbA.out.size)
  have hg2 := Lib.hid (HG.out.below hb2')
  have hbx2 := (BX.out.keep hb2).cell
  have hlt2 := (BX.out.keep hb2).lt
  have hne2 : w.heap.size ≠ w2.heap.size := by omega
  have hne2' : w2.heap.size ≠ w.heap.size := by omega
  clear hb2
  go_cut [4] (fun s4 wx => ∃ (fs : List Fd) (l : List Int) (g' : List (List Int)), Folds g (allL g.length) fs l g' ∧ Nums wx 2 .i64 s4 l ∧ l.length ≤ 16 ∧ Below w2.heap.size w2 wx)
  case first =>
    go_region_held3 (fun w' => w'.cell? ⟨w.heap.size, 0, none⟩ = some (.slice p g.length c))
      (first | go_keep | exact hb5'.at' hbx2 | exact hb6'.at' hbx2 | exact (below_alloc _ _).at' (hb5'.at' hbx2) | exact (below_alloc _ _).at' (hb6'.at' hbx2) | exact (hb6'.setCell (p := ⟨_, 0, none⟩) hb5'.size _).at' hbx2 | exact (hb6'.setCell (p := ⟨_, 0, none⟩) (Nat.le_refl _) _).at' hbx2)
      (first | (go_at_call 23; refine (l16All_any _ g (by omega) _ (hg2.out.below (below_dN (Below.refl _ _) 1))).mono ?_; rintro e w5 ⟨lv, rfl, hown5, hb5⟩; have hb5' : Below w2.heap.size w2 w5 := (below_dN (Below.refl _ _) 1).trans hb5; have hn5 := Lib.hid (Nums.of_owns (xs := allL g.length) hown5 (allL_length _).symm (by omega)); clear hown5) | (go_at_call 23; refine (l16All_any _ g (by omega) _ (hg2.out.below (below_dN (below_alloc _ _) 1))).mono ?_; rintro e w5 ⟨lv, rfl, hown5, hb5⟩; have hb5' : Below w2.heap.size w2 w5 := (below_dN (below_alloc w2 (.cells #[.slice none 0 0] 30)) 1).trans (hb5.mono (below_alloc w2 _).size); have hn5 := Lib.hid (Nums.of_owns (xs := allL g.length) hown5 (allL_length _).symm (by omega)); clear hown5; have ZB := Lib.hid ((Box.new w2 (.slice none 0 0) 30).keep (show Below _ _ w5 from ⟨hb5.os, hb5.tape, hb5.output, hb5.size, hb5.block⟩))) | (go_at_call 54; have ZB2 := ZB.out; refine (l20All_any _ _ g (allL g.length) h16 (by rw [allL_length]; exact h16) (fun x hx => mem_allL.1 hx) Hrl.out _ (hg2.out.below (hb5')) (hn5.out.below (Below.refl _ _))).mono ?_; rintro e w6 ⟨ov, lv2, gu, fs, l, g', rfl, hF, ho6, hn6, hr6, hf6, _, _, hl6, _, hb6⟩; obtain ⟨gp, gc, rfl, _⟩ := hr6.shape; have HF := Lib.hid hF; have HO := Lib.hid ho6; have HN := Lib.hid hn6; clear hF ho6 hn6 hr6; have hb6' : Below w2.heap.size w2 w6 := hb5'.trans (hb6.mono hb5'.size); obtain ⟨zc, zf, zl, zB⟩ := ZB2.keep hb6) | (go_at_call 54; refine (l20All_any _ _ g (allL g.length) h16 (by rw [allL_length]; exact h16) (fun x hx => mem_allL.1 hx) Hrl.out _ (hg2.out.below (hb5'.trans ((below_alloc w5 _).mono hb5'.size))) (hn5.out.below (below_alloc w5 _))).mono ?_; rintro e w6 ⟨ov, lv2, gu, fs, l, g', rfl, hF, ho6, hn6, hr6, hf6, _, _, hl6, _, hb6⟩; obtain ⟨gp, gc, rfl, _⟩ := hr6.shape; have HF := Lib.hid hF; have HO := Lib.hid ho6; have HN := Lib.hid hn6; clear hF ho6 hn6 hr6; have hb6' : Below w2.heap.size w2 w6 := (hb5'.trans ((below_alloc w5 (.cells #[.slice none 0 0] 30)).mono hb5'.size)).trans (hb6.mono (by have := hb5'.size; rw [size_alloc]; omega)); obtain ⟨zc, zf, zl, zB⟩ := (Box.new w5 (.slice none 0 0) 30).keep hb6) | (go_at_call 54; refine (l20All_any _ _ g (allL g.length) h16 (by rw [allL_length]; exact h16) (fun x hx => mem_allL.1 hx) Hrl.out _ (hg2.out.below (hb5')) (hn5.out.below (Below.refl _ _))).mono ?_; rintro e w6 ⟨ov, lv2, gu, fs, l, g', rfl, hF, ho6, hn6, hr6, hf6, _, _, hl6, _, hb6⟩; obtain ⟨gp, gc, rfl, _⟩ := hr6.shape; have HF := Lib.hid hF; have HO := Lib.hid ho6; have HN := Lib.hid hn6; clear hF ho6 hn6 hr6; have hb6' : Below w2.heap.size w2 w6 := hb5'.trans (hb6.mono hb5'.size)))
    all_goals go_wp2
    all_goals go_meet
    · exact ⟨_, _, _, HF.out, HN.out.below (below_alloc _ _), hl6, hb6'.alloc hb6'.size _⟩
    · exact ⟨_, _, _, HF.out, HN.out.setBox ⟨zc, zf, zl, zB⟩ (by decide) _, hl6, hb6'.setCell (p := ⟨_, 0, none⟩) hb5'.size _⟩
    · exact ⟨_, _, _, HF.out, HN.out.setBox ⟨zc, zf, zl, zB⟩ (by decide) _, hl6, hb6'.setCell (p := ⟨_, 0, none⟩) (Nat.le_refl _) _⟩
  case rest =>
    obtain ⟨fs, l, g', hF, hn, hll, hbc⟩ := hcut
    obtain ⟨lp, lc, rfl, _⟩ := id hn
    have hiff := serS_iff Hok.out hF
    by_cases hz : l.length = 0
    · have hd2 : dec (SerS g) = true := dec_true (hiff.2 hz)
      have hz2 : ((l.length : Int) == 0) = true := by simp [hz]
      go_wp2
      go_ret
      exact ⟨by rw [hd2]; rfl, hb2'.trans (hbc.mono hb2'.size)⟩
    · have hd2 : dec (SerS g) = false := dec_false (fun h => hz (hiff.1 h))
      have hz2 : ((l.length : Int) == 0) = false := by simpa using hz
      go_wp2
      go_ret
      exact ⟨by rw [hd2]; rfl, hb2'.trans (hbc.mono hb2'.size)⟩

end Go.Proofs.YtiklocamfgopbaaDoor
