/- Walk: the reference's CoreOf. -/
import Derived.Test.YtgecghfaoonelaaDoorSpecC
import Derived.Test.YtgecghfaoonelaaDoorLinkC
namespace Go.Proofs.YtgecghfaoonelaaDoor
open Go.RowKit

theorem sg_nil (w : World) (base : Nat) : SG w base (.agg #[.slice none 0 0]) [] := ⟨_, [], rfl, rfl, World.ownsRow_nil _ _ _ _, fun j hj => by simp at hj⟩

set_option maxRecDepth 100000 in
set_option maxHeartbeats 4000000 in
theorem specCoreOf_any (v : Value) (g : List (List Int)) (w : World) (hg : Gr w v g) :
    Calls Tryd.prog 24 #[v] w fun e w' => ∃ (u : Value) (gg : List (List Int)) (ok : Bool), e = .returned (.tuple #[u, .bool ok]) ∧ CoreS g gg ok ∧ SG w' w.heap.size u gg ∧ gg.length ≤ 16 ∧ (∀ j, (row gg j).length ≤ 16) ∧ Below w.heap.size w w' := by
  have hg0 := hg
  obtain ⟨u, rfl, hr⟩ := hg
  obtain ⟨p, c, rfl, _, _, _⟩ := hr.shape
  have HG := Lib.hid hg0
  have hbA := Lib.hid (below_alloc2 w (.cells #[.slice p g.length c] 29) (.cells #[.slice none 0 0] 29))
  have BX := Lib.hid ((Box.new w (.slice p g.length c) 29).alloc (.cells #[.slice none 0 0] 29))
  have BN : Hid (Box ((w.alloc (.cells #[.slice p g.length c] 29)).alloc (.cells #[.slice none 0 0] 29)) (w.heap.size + 1) 29 (.slice none 0 0)) := by
    have := Box.new (w.alloc (.cells #[.slice p g.length c] 29)) (.slice none 0 0) 29
    rw [size_alloc] at this
    exact Lib.hid this
  clear hr hg0
  by_cases hok : GOk g
  case neg =>
    have hd := dec_false hok
    have Hok := Lib.hid hok
    clear hok
    go_enter Tryd.func24, Tryd.ntmps24
    go_wp2_with (go_at_call 38; refine (specGraphOk_any _ g _ (HG.out.below hbA.out)).mono ?_; rintro e w2 ⟨rfl, hb2⟩; obtain ⟨nc, nf, nl, nB⟩ := BN.out.keep hb2)
    have h0 := hbA.out.size
    refine bodyPost_ret (v := .tuple #[.agg #[.slice none 0 0], .bool false]) (by simp [results, Tryd.results24, go_sem, nc]) rfl ⟨_, [], false, rfl, .inr ⟨rfl, rfl, .inl Hok.out⟩, sg_nil _ _, by simp, fun j => by simp [row], ?_⟩
    exact (hbA.out.trans (hb2.mono hbA.out.size)).setCell (by show w.heap.size ≤ w.heap.size + 1; omega) _
  have hd := dec_true hok
  have h16 := hok.le
  have Hrl := Lib.hid (gOk_row_le hok)
  have Hok := Lib.hid hok
  clear hok
  go_enter Tryd.func24, Tryd.ntmps24
  go_wp2_with fail
  go_wp2_with (go_at_call 38; refine (specGraphOk_any _ g _ (HG.out.below hbA.out)).mono ?_; rintro e w2 ⟨rfl, hb2⟩)
  have hb2' : Below w.heap.size w w2 := hbA.out.trans (hb2.mono hbA.out.size)
  have hg2 := Lib.hid (HG.out.below hb2')
  have hbx2 := (BX.out.keep hb2).cell
  have hlt2 := (BX.out.keep hb2).lt
  have hne2 : w.heap.size ≠ w2.heap.size := by omega
  have hne2' : w2.heap.size ≠ w.heap.size := by omega
  have hbK := Lib.hid hb2
  clear hb2
  have BN2 := Lib.hid (BN.out.keep hbK.out)
  go_cut [5, 6] (fun s5 s6 wx => ∃ (fs : List Fd) (l : List Int) (g' : List (List Int)) (b6 : Nat) (gu : Value), Folds g (allL g.length) fs l g' ∧ Nums wx 2 .i64 s5 l ∧ l.length ≤ 16 ∧ s6 = .pointer (some ⟨b6, 0, none⟩) ∧ Box wx b6 29 gu ∧ Rws wx 26 2 gu g' ∧ Below w2.heap.size w2 wx)
  case first =>
    go_region_held3 (fun w' => w'.cell? ⟨w.heap.size, 0, none⟩ = some (.slice p g.length c))
      (first | go_keep | exact hb5'.at' hbx2 | exact hb6'.at' hbx2 | exact (below_alloc _ _).at' (hb5'.at' hbx2) | exact (below_alloc _ _).at' (hb6'.at' hbx2) | exact (hb6'.setCell (p := ⟨_, 0, none⟩) hb5'.size _).at' hbx2 | exact (hb6'.setCell (p := ⟨_, 0, none⟩) (Nat.le_refl _) _).at' hbx2)
      (first | (go_at_call 40; refine (l16All_any _ g (by omega) _ (hg2.out.below (below_dN (Below.refl _ _) 1))).mono ?_; rintro e w5 ⟨lv, rfl, hown5, hb5⟩; have hb5' : Below w2.heap.size w2 w5 := (below_dN (Below.refl _ _) 1).trans hb5; have hn5 := Lib.hid (Nums.of_owns (xs := allL g.length) hown5 (allL_length _).symm (by omega)); clear hown5) | (go_at_call 40; refine (l16All_any _ g (by omega) _ (hg2.out.below (below_dN (below_alloc _ _) 1))).mono ?_; rintro e w5 ⟨lv, rfl, hown5, hb5⟩; have hb5' : Below w2.heap.size w2 w5 := (below_dN (below_alloc w2 (.cells #[.slice none 0 0] 29)) 1).trans (hb5.mono (below_alloc w2 _).size); have hn5 := Lib.hid (Nums.of_owns (xs := allL g.length) hown5 (allL_length _).symm (by omega)); clear hown5; have ZB := Lib.hid ((Box.new w2 (.slice none 0 0) 29).keep (show Below _ _ w5 from ⟨hb5.os, hb5.tape, hb5.output, hb5.size, hb5.block⟩))) | (go_at_call 39; have ZB2 := ZB.out; refine (l20All_any _ _ g (allL g.length) h16 (by rw [allL_length]; exact h16) (fun x hx => mem_allL.1 hx) Hrl.out _ (hg2.out.below (hb5')) (hn5.out.below (Below.refl _ _))).mono ?_; rintro e w6 ⟨ov, lv2, gu, fs, l, g', rfl, hF, ho6, hn6, hr6, hf6, hgl6, _, hl6, _, hb6⟩; obtain ⟨gp, gc, rfl, _⟩ := hr6.shape; have HF := Lib.hid hF; have HO := Lib.hid ho6; have HN := Lib.hid hn6; have HR : Hid (Rws w6 26 2 (.slice gp g.length gc) g') := Lib.hid (by rw [← hgl6]; exact hr6); clear hF ho6 hn6 hr6; have hb6' : Below w2.heap.size w2 w6 := hb5'.trans (hb6.mono hb5'.size); obtain ⟨zc, zf, zl, zB⟩ := ZB2.keep hb6) | (go_at_call 39; refine (l20All_any _ _ g (allL g.length) h16 (by rw [allL_length]; exact h16) (fun x hx => mem_allL.1 hx) Hrl.out _ (hg2.out.below (hb5'.trans ((below_alloc w5 _).mono hb5'.size))) (hn5.out.below (below_alloc w5 _))).mono ?_; rintro e w6 ⟨ov, lv2, gu, fs, l, g', rfl, hF, ho6, hn6, hr6, hf6, hgl6, _, hl6, _, hb6⟩; obtain ⟨gp, gc, rfl, _⟩ := hr6.shape; have HF := Lib.hid hF; have HO := Lib.hid ho6; have HN := Lib.hid hn6; have HR : Hid (Rws w6 26 2 (.slice gp g.length gc) g') := Lib.hid (by rw [← hgl6]; exact hr6); clear hF ho6 hn6 hr6; have hb6' : Below w2.heap.size w2 w6 := (hb5'.trans ((below_alloc w5 (.cells #[.slice none 0 0] 29)).mono hb5'.size)).trans (hb6.mono (by have := hb5'.size; rw [size_alloc]; omega)); obtain ⟨zc, zf, zl, zB⟩ := (Box.new w5 (.slice none 0 0) 29).keep hb6) | (go_at_call 39; refine (l20All_any _ _ g (allL g.length) h16 (by rw [allL_length]; exact h16) (fun x hx => mem_allL.1 hx) Hrl.out _ (hg2.out.below (hb5')) (hn5.out.below (Below.refl _ _))).mono ?_; rintro e w6 ⟨ov, lv2, gu, fs, l, g', rfl, hF, ho6, hn6, hr6, hf6, hgl6, _, hl6, _, hb6⟩; obtain ⟨gp, gc, rfl, _⟩ := hr6.shape; have HF := Lib.hid hF; have HO := Lib.hid ho6; have HN := Lib.hid hn6; have HR : Hid (Rws w6 26 2 (.slice gp g.length gc) g') := Lib.hid (by rw [← hgl6]; exact hr6); clear hF ho6 hn6 hr6; have hb6' : Below w2.heap.size w2 w6 := hb5'.trans (hb6.mono hb5'.size)))
    all_goals go_wp2
    all_goals go_meet
    · exact ⟨_, _, _, _, _, HF.out, HN.out.below (below_alloc _ _), hl6, rfl, Box.new _ _ _, HR.out.below (below_alloc _ _), hb6'.alloc hb6'.size _⟩
    · exact ⟨_, _, _, _, _, HF.out, HN.out.setBox ⟨zc, zf, zl, zB⟩ (by decide) _, hl6, rfl, Box.set ⟨zc, zf, zl, zB⟩ _, HR.out.setBox ⟨zc, zf, zl, zB⟩ (by decide) (by decide) _, hb6'.setCell (p := ⟨_, 0, none⟩) hb5'.size _⟩
    · exact ⟨_, _, _, _, _, HF.out, HN.out.setBox ⟨zc, zf, zl, zB⟩ (by decide) _, hl6, rfl, Box.set ⟨zc, zf, zl, zB⟩ _, HR.out.setBox ⟨zc, zf, zl, zB⟩ (by decide) (by decide) _, hb6'.setCell (p := ⟨_, 0, none⟩) (Nat.le_refl _) _⟩
  case rest =>
    obtain ⟨fs, l, g', b6, gu, hF, hn, hll, rfl, hbx6, hr6, hbc⟩ := hcut
    obtain ⟨lp, lc, rfl, _⟩ := id hn
    obtain ⟨gp, gc, rfl, _⟩ := hr6.shape
    obtain ⟨hok', hlen', hset'⟩ := folds_ok hF Hok.out (fun x hx => mem_allL.1 hx) (allL_rising _)
    obtain ⟨nc, nf, nl, nB⟩ := BN2.out.keep hbc
    have h0 := hbA.out.size
    have h2 := hbK.out.size
    have hc := hbc.size
    have HBC := Lib.hid (hb2'.trans (hbc.mono hb2'.size))
    by_cases hz : l.length = 0
    · have hz2 : ((l.length : Int) == 0) = true := by simp [hz]
      obtain rfl := List.eq_nil_of_length_eq_zero hz
      have HFF := Lib.hid hF
      clear hF hok' hlen' hset' hn hr6 hbx6
      go_wp2
      refine bodyPost_ret (v := .tuple #[.agg #[.slice none 0 0], .bool false]) (by simp [results, Tryd.results24, go_sem, nc]) rfl ⟨_, [], false, rfl, .inr ⟨rfl, rfl, .inr ⟨_, _, HFF.out⟩⟩, sg_nil _ _, by simp, fun j => by simp [row], ?_⟩
      exact HBC.out.setCell (by show w.heap.size ≤ w.heap.size + 1; omega) _
    · have hz2 : ((l.length : Int) == 0) = false := by simpa using hz
      have hne : l ≠ [] := fun e => hz (by rw [e]; rfl)
      have hc6 := hbx6.cell
      have HI := Lib.hid (specInduced_yes (.agg #[.slice gp g'.length gc]) (.slice lp l.length lc) g' l hok' (by rw [hlen']; exact hset') hne wc ⟨_, rfl, hr6⟩ hn)
      have HFF := Lib.hid hF
      have Hne := Lib.hid hne
      clear hF hok' hlen' hset' hn hr6 hbx6 hne
      go_wp2_with (go_at_call 47; refine HI.out.mono ?_; rintro e w7 ⟨u7, rfl, hs7, hb7⟩; obtain ⟨p7, c7, rfl⟩ := hs7.shape; obtain ⟨mc, mf, ml, mB⟩ := Box.keep ⟨nc, nf, nl, nB⟩ hb7)
      have hll2 : (indL g' l).length = l.length := matG_length _ _
      refine bodyPost_ret (v := .tuple #[.agg #[.slice p7 (indL g' l).length c7], .bool true]) (by simp [results, Tryd.results24, go_sem, mc]) rfl ⟨_, _, true, rfl, .inl ⟨rfl, Hok.out, _, _, _, HFF.out, Hne.out, rfl⟩, (hs7.setBox ⟨mc, mf, ml, mB⟩ _).base (by rw [size_alloc, size_alloc] at h2; omega), by omega, fun j => Nat.le_trans (matG_row_le j) hll, ?_⟩
      exact (HBC.out.trans (hb7.mono HBC.out.size)).setCell (by show w.heap.size ≤ w.heap.size + 1; omega) _

end Go.Proofs.YtgecghfaoonelaaDoor
