/- Walk: the program's MinorIn (printed by wip/mkMiM.py). -/
import Derived.Test.YtmakhapdlkbbnaaDoorMiQ31
import Derived.Test.YtmakhapdlkbbnaaDoorMiQ36
import Derived.Test.YtmakhapdlkbbnaaDoorMiQ8
namespace Go.Proofs.YtmakhapdlkbbnaaDoor
open Go.RowKit

theorem DG.setMi {w : World} {base b : Nat} {v x : Value} {g : List (List Int)} (h : DG w base v g) (hb : Box w b 54 x) (u : Value) : DG (w.setCell ⟨b, 0, none⟩ u) base v g := by
  obtain ⟨u0, vals, h1, h2, h3, h4⟩ := h
  exact ⟨u0, vals, h1, h2, ownsRow_setBox h3 hb (by decide) _, ⟨fun j hj => ownsRow_setBox (h4.rows j hj) hb (by decide) _, h4.dis⟩⟩
theorem dg_nilMi (w : World) (base : Nat) : DG w base (.agg #[.slice none 0 0]) [] := ⟨_, [], rfl, rfl, World.ownsRow_nil _ _ _ _, ⟨fun j hj => by simp at hj, fun i j hi => by simp at hi⟩⟩
theorem ofG_comm {g : List (List Int)} (hg : GOk g) (i k : Nat) : ofG g i k = ofG g k i := by
  rw [Bool.eq_iff_iff]
  exact ⟨ofG_sym hg i k, ofG_sym hg k i⟩
theorem ofG_to {g : List (List Int)} (hg : GOk g) (x y : Nat) (h : ofG g x y = true) : y < g.length := by
  simp only [ofG, decide_eq_true_eq] at h
  by_cases hx : x < g.length
  · have := (hg.sets x hx).1.1 _ h
    omega
  · have : row g x = [] := by simp [row, List.getElem?_eq_none (show g.length ≤ x by omega)]
    rw [this] at h
    simp at h
theorem rowsOf_mskW {m : Nat} {w : List Nat} (h : w.length ≤ 16) : rowsOf (mskW m w) = setsW m w := by
  unfold rowsOf setsW
  rw [mskW, List.map_map]
  refine List.map_congr_left fun k hk => ?_
  have hk := List.mem_range.1 hk
  have := bits_mskW w h hk
  rw [mskW_at w hk] at this
  simp [this]
theorem row_setsW_leI {m j : Nat} {w : List Nat} (h : w.length ≤ 16) : (row (setsW m w) j).length ≤ 16 := by
  by_cases e : j < m
  · rw [row_setsW e, natInts_length]
    refine Nat.le_trans ?_ h
    have := List.length_filter_le (fun v => w.getD v 0 == j + 1) (List.range w.length)
    rw [List.length_range] at this
    exact this
  · have : row (setsW m w) j = [] := by simp [row, setsW, List.getElem?_eq_none (show ((List.range m).map fun k => natInts (setW w k)).length ≤ j by simp; omega)]
    rw [this]; exact Nat.zero_le _

theorem MnEnd.lower {w0 w1 w' : World} {m : Nat} {u : Value} {f : Option (List Nat)} (h : MnEnd w1 w' m u f) (hb : w0.heap.size ≤ w1.heap.size) : MnEnd w0 w' m u f := by
  rcases h with h | ⟨x, b, h1, h2, h3⟩
  · exact .inl h
  · exact .inr ⟨x, b, h1, h2, ownsRow_base h3 hb⟩
set_option maxRecDepth 100000 in
set_option maxHeartbeats 4000000 in
theorem implMinorIn_any (v pv : Value) (g p : List (List Int)) (w : World) (hg : Gr w v g) (hp : Gr w pv p) (hT : Tab w) :
    Calls Tryd.prog 44 #[v, pv] w fun e w' => ∃ (u : Value) (R : List (List Int)) (ok : Bool), e = .returned (.tuple #[u, .bool ok]) ∧ MiS g p R ok ∧ DG w' w.heap.size u R ∧ R.length ≤ 16 ∧ (∀ j, (row R j).length ≤ 16) ∧ Below w.heap.size w w' := by
  have hg0 := Lib.hid hg
  have hp0 := Lib.hid hp
  obtain ⟨_, rfl, hr⟩ := hg
  obtain ⟨ga, gc, rfl, _⟩ := hr.shape
  obtain ⟨_, rfl, hr2⟩ := hp
  obtain ⟨pa, pc, rfl, _⟩ := hr2.shape
  obtain ⟨W0, hW0, hbA, SZ0, B0, B1, B2⟩ := three_boxesM w (.slice ga g.length gc) (.slice pa p.length pc) (.slice none 0 0) 29 29 54
  have HBA := Lib.hid hbA
  have HT := Lib.hid (hT.keep hbA)
  have HG := Lib.hid (hg0.out.below hbA)
  have HP := Lib.hid (hp0.out.below hbA)
  have HX0 := Lib.hid B0
  have HX1 := Lib.hid B1
  have HX2 := Lib.hid B2
  have HSZ := Lib.hid SZ0
  clear hT hr hr2 hg0 hp0 hbA SZ0 B0 B1 B2
  by_cases hok : GOk g
  case neg =>
    have HC := Lib.hid (show MiS g p [] false from .inr ⟨fun h => hok (by have := h.1; first | exact this.1 | exact this.2.1 | exact this.2.2.1 | exact this.2.2.2), rfl, rfl⟩)
    have HD := Lib.hid (dec_false hok)
    clear hok
    go_enter Tryd.func44, Tryd.ntmps44
    go_upto_region 1 with fail
    rw [← hW0]
    clear hW0
    have c0 := HX0.out.cell
    go_wp2_with (first
      | (go_at_call 80; refine (implGraphOk_any _ g _ HG.out).mono ?_; rintro e w2 ⟨he, hb2⟩; rw [HD.out] at he; subst he; obtain ⟨nc, nf, nl, nB⟩ := HX2.out.keep hb2))
    refine bodyPost_ret (v := .tuple #[.agg #[.slice none 0 0], .bool false]) (by simp [results, Tryd.results44, go_sem, nc]) rfl ⟨_, [], false, rfl, HC.out, dg_nilMi _ _, by simp, fun j => by simp [row], ?_⟩
    exact ((HBA.out.trans (hb2.mono HBA.out.size))).setCell (by show w.heap.size ≤ w.heap.size + 2; omega) _
  have HD := Lib.hid (dec_true hok)
  by_cases hok2 : GOk p
  case neg =>
    have HC := Lib.hid (show MiS g p [] false from .inr ⟨fun h => hok2 (by have := h.1; first | exact this.1 | exact this.2.1 | exact this.2.2.1 | exact this.2.2.2), rfl, rfl⟩)
    have HD2 := Lib.hid (dec_false hok2)
    clear hok2
    go_enter Tryd.func44, Tryd.ntmps44
    go_upto_region 1 with fail
    rw [← hW0]
    clear hW0
    have c0 := HX0.out.cell
    go_wp2_with (first
      | (go_at_call 80; refine (implGraphOk_any _ p _ (HP.out.below hb2)).mono ?_; rintro e w3 ⟨he, hb3⟩; rw [HD2.out] at he; subst he; obtain ⟨nc, nf, nl, nB⟩ := (HX2.out.keep hb2).keep hb3)
      | (go_at_call 80; refine (implGraphOk_any _ g _ HG.out).mono ?_; rintro e w2 ⟨he, hb2⟩; rw [HD.out] at he; subst he; have c1 := (HX1.out.keep hb2).cell))
    refine bodyPost_ret (v := .tuple #[.agg #[.slice none 0 0], .bool false]) (by simp [results, Tryd.results44, go_sem, nc]) rfl ⟨_, [], false, rfl, HC.out, dg_nilMi _ _, by simp, fun j => by simp [row], ?_⟩
    exact (((HBA.out.trans (hb2.mono HBA.out.size)).trans (hb3.mono (Nat.le_trans HBA.out.size hb2.size)))).setCell (by show w.heap.size ≤ w.heap.size + 2; omega) _
  have HD2 := Lib.hid (dec_true hok2)
  have HOK := Lib.hid hok
  have HOK2 := Lib.hid hok2
  clear hok hok2
  by_cases h8 : g.length ≤ 8
  case neg =>
    have HC := Lib.hid (show MiS g p [] false from .inr ⟨fun h => h8 (by have := h.1; first | exact this.1 | exact this.2.1 | exact this.2.2.1 | exact this.2.2.2), rfl, rfl⟩)
    have hgt : (8 : Int) < (g.length : Int) := by omega
    clear h8
    go_enter Tryd.func44, Tryd.ntmps44
    go_upto_region 1 with fail
    rw [← hW0]
    clear hW0
    have c0 := HX0.out.cell
    go_wp2_with (first
      | (go_at_call 80; refine (implGraphOk_any _ p _ (HP.out.below hb2)).mono ?_; rintro e w3 ⟨he, hb3⟩; rw [HD2.out] at he; subst he; have k0 := ((HX0.out.keep hb2).keep hb3).cell; obtain ⟨nc, nf, nl, nB⟩ := (HX2.out.keep hb2).keep hb3)
      | (go_at_call 80; refine (implGraphOk_any _ g _ HG.out).mono ?_; rintro e w2 ⟨he, hb2⟩; rw [HD.out] at he; subst he; have c1 := (HX1.out.keep hb2).cell))
    refine bodyPost_ret (v := .tuple #[.agg #[.slice none 0 0], .bool false]) (by simp [results, Tryd.results44, go_sem, nc]) rfl ⟨_, [], false, rfl, HC.out, dg_nilMi _ _, by simp, fun j => by simp [row], ?_⟩
    exact (((HBA.out.trans (hb2.mono HBA.out.size)).trans (hb3.mono (Nat.le_trans HBA.out.size hb2.size)))).setCell (by show w.heap.size ≤ w.heap.size + 2; omega) _
  have hgt : ¬ (8 : Int) < (g.length : Int) := by omega
  by_cases h5 : p.length ≤ 5
  case neg =>
    have HC := Lib.hid (show MiS g p [] false from .inr ⟨fun h => h5 (by have := h.1; first | exact this.1 | exact this.2.1 | exact this.2.2.1 | exact this.2.2.2), rfl, rfl⟩)
    have hgt5 : (5 : Int) < (p.length : Int) := by omega
    clear h5
    go_enter Tryd.func44, Tryd.ntmps44
    go_upto_region 1 with fail
    rw [← hW0]
    clear hW0
    have c0 := HX0.out.cell
    go_wp2_with (first
      | (go_at_call 80; refine (implGraphOk_any _ p _ (HP.out.below hb2)).mono ?_; rintro e w3 ⟨he, hb3⟩; rw [HD2.out] at he; subst he; have k0 := ((HX0.out.keep hb2).keep hb3).cell; have k1 := ((HX1.out.keep hb2).keep hb3).cell; obtain ⟨nc, nf, nl, nB⟩ := (HX2.out.keep hb2).keep hb3)
      | (go_at_call 80; refine (implGraphOk_any _ g _ HG.out).mono ?_; rintro e w2 ⟨he, hb2⟩; rw [HD.out] at he; subst he; have c1 := (HX1.out.keep hb2).cell))
    refine bodyPost_ret (v := .tuple #[.agg #[.slice none 0 0], .bool false]) (by simp [results, Tryd.results44, go_sem, nc]) rfl ⟨_, [], false, rfl, HC.out, dg_nilMi _ _, by simp, fun j => by simp [row], ?_⟩
    exact (((HBA.out.trans (hb2.mono HBA.out.size)).trans (hb3.mono (Nat.le_trans HBA.out.size hb2.size)))).setCell (by show w.heap.size ≤ w.heap.size + 2; omega) _
  have hgt5 : ¬ (5 : Int) < (p.length : Int) := by omega
  go_enter Tryd.func44, Tryd.ntmps44
  go_upto_region 1 with fail
  rw [← hW0]
  clear hW0
  have c0 := HX0.out.cell
  go_upto_region 3 with (first
      | (go_at_call 80; refine (implGraphOk_any _ p _ (HP.out.below hb2)).mono ?_; rintro e w3 ⟨he, hb3⟩; rw [HD2.out] at he; subst he; have k0 := ((HX0.out.keep hb2).keep hb3).cell; have k1 := ((HX1.out.keep hb2).keep hb3).cell)
      | (go_at_call 80; refine (implGraphOk_any _ g _ HG.out).mono ?_; rintro e w2 ⟨he, hb2⟩; rw [HD.out] at he; subst he; have c1 := (HX1.out.keep hb2).cell))
  have HB3 : Hid (Below W0.heap.size W0 w3) := Lib.hid (hb2.trans (hb3.mono hb2.size))
  have HT3 := Lib.hid (HT.out.keep HB3.out)
  have HG3 := Lib.hid (HG.out.below HB3.out)
  have HP3 := Lib.hid (HP.out.below HB3.out)
  have g16 := HOK.out.le
  have p16 := HOK2.out.le
  clear hb2 hb3 c0 c1 hgt hgt5
  go_cut [6] (fun s6 wx => MnEnd w3 wx p.length s6 (findN p.length (FitW p.length (ofG g) (ofG p)) g.length []) ∧ Below w3.heap.size w3 wx)
  case first =>
    go_region_held3 (fun W => W.cell? ⟨w.heap.size, 0, none⟩ = some (.slice ga g.length gc) ∧ W.cell? ⟨w.heap.size + 1, 0, none⟩ = some (.slice pa p.length pc))
      (first | exact ⟨k0, k1⟩ | go_keep | exact ⟨BWC.at' k0, BWC.at' k1⟩ | exact ⟨BWB.at' k0, BWB.at' k1⟩ | exact ⟨BWA.at' k0, BWA.at' k1⟩)
      (first
        | (go_at_call 125; refine (minorIn_any _ _ g.length p.length (ofG g) (ofG p) h8 (by omega) (ofG_sym HOK.out) (ofG_to HOK.out) (ofG_comm HOK2.out) (ofG_irr HOK2.out) _ (HNA.out.next hb5x) HNB.out (HT3.out.keep BWB)).mono ?_; rintro e w6 ⟨u6, rfl, hend, hb6⟩; have HEND := Lib.hid (hend.lower BWB.size); have BWC : Below w3.heap.size w3 w6 := BWB.trans (hb6.mono BWB.size); clear hend)
        | (go_at_call 82; have BWA2 := BWA; clear BWA2; refine (netsOf_any _ p _ (HP3.out.below (by first | exact BWA | exact BWA.trans (below_dN (Below.refl _ _) 1))) HOK2.out).mono ?_; rintro e w5 ⟨x5, rfl, hown5, hb5⟩; have HNB : Hid (NE w5 x5 p.length (ofG p)) := Lib.hid ⟨p16, by rw [indN_ofG HOK2.out]; exact Sl.of_owns hown5 (by omega)⟩; have hb5x : Below w4.heap.size w4 w5 := (by first | exact hb5 | exact (below_dN (Below.refl _ _) 1).trans hb5); have BWB : Below w3.heap.size w3 w5 := BWA.trans (hb5x.mono BWA.size); clear hown5)
        | (go_at_call 82; refine (netsOf_any _ g _ (HG3.out.below (below_dN (Below.refl _ _) 1)) HOK.out).mono ?_; rintro e w4 ⟨x4, rfl, hown4, hb4⟩; have HNA : Hid (NE w4 x4 g.length (ofG g)) := Lib.hid ⟨g16, by rw [indN_ofG HOK.out]; exact Sl.of_owns hown4 (by omega)⟩; have BWA : Below w3.heap.size w3 w4 := (below_dN (Below.refl _ _) 1).trans hb4; clear hown4))
    all_goals go_wp2
    all_goals go_meet
    all_goals exact ⟨HEND.out, BWC⟩
  case rest =>
  obtain ⟨hend, hbc⟩ := hcut
  have HB4 : Hid (Below W0.heap.size W0 wc) := Lib.hid (HB3.out.trans (hbc.mono HB3.out.size))
  have s3 := HB3.out.size
  obtain ⟨nc, nf, nl, nB⟩ := HX2.out.keep HB4.out
  clear k0 k1
  rcases hend with ⟨hf, rfl⟩ | ⟨x, b, hf, rfl, hown⟩
  · have HC := Lib.hid (show MiS g p [] false from .inr ⟨fun h => (by obtain ⟨_, y, hy⟩ := h; exact absurd (hf.symm.trans hy) (by simp)), rfl, rfl⟩)
    have hnl : ∀ w, Sem.run Tryd.prog (binOp BinOp.eql 75 (.slice none 0 0) (.slice none 0 0)) w = .ok (.bool true) w := fun w => rfl
    clear hbc hf
    go_wp2_with fail
    refine bodyPost_ret (v := .tuple #[.agg #[.slice none 0 0], .bool false]) (by simp [results, Tryd.results44, go_sem, nc]) rfl ⟨_, [], false, rfl, HC.out, dg_nilMi _ _, by simp, fun j => by simp [row], ?_⟩
    exact (HBA.out.trans (HB4.out.mono HBA.out.size)).setCell (by show w.heap.size ≤ w.heap.size + 2; omega) _
  · have hnl : ∀ w, Sem.run Tryd.prog (binOp BinOp.eql 75 (.slice (some ⟨b, 0, none⟩) p.length p.length) (.slice none 0 0)) w = .ok (.bool false) w := fun w => rfl
    have HC := Lib.hid (show MiS g p (setsW p.length x) true from .inl ⟨⟨HOK.out, HOK2.out, h8, h5⟩, x, hf, rfl, rfl⟩)
    have hxl : Hid (x.length ≤ 16) := Lib.hid (by
      obtain ⟨_, u, e, hu, _⟩ := findN_some _ _ _ hf
      rw [e]; simp; omega)
    have HRO := Lib.hid (rowsOf_mskW (m := p.length) hxl.out)
    have HLT : Hid (∀ s ∈ mskW p.length x, s < 4294967296) := Lib.hid (fun s hs => by
      obtain ⟨j, hj, rfl⟩ := List.getElem_of_mem hs
      have := mskW_lt16 (m := p.length) (k := j) hxl.out
      rw [List.getD_eq_getElem?_getD, List.getElem?_eq_getElem hj] at this
      have e : (mskW p.length x)[j] < 65536 := this
      omega)
    have HAL := Lib.hid (mskW_length p.length x)
    have HSL : Hid (Sl wc 79 (.slice (some ⟨b, 0, none⟩) p.length p.length) (mskW p.length x).length ((mskW p.length x).map u32v)) := Lib.hid (by rw [HAL.out]; exact Sl.of_owns hown (by omega))
    clear hbc hf hown
    go_wp2_with (go_at_call 96; refine (results_any _ (mskW p.length x) HLT.out (by rw [HAL.out]; omega) _ HSL.out (HT.out.keep HB4.out)).mono ?_; rintro e w7 ⟨u7, rfl, hd7, hb7⟩; rw [HRO.out] at hd7; obtain ⟨rp7, rc7, e7⟩ := hd7.shape; cases e7; obtain ⟨mc, mf, ml, mB⟩ := (HX2.out.keep HB4.out).keep hb7)
    have h1 := HBA.out.size
    have h2 := HB4.out.size
    refine bodyPost_ret (v := .tuple #[.agg #[.slice rp7 (setsW p.length x).length rc7], .bool true]) (by simp [results, Tryd.results44, go_sem, mc]) rfl ⟨_, setsW p.length x, true, rfl, HC.out, (hd7.setMi ⟨mc, mf, ml, mB⟩ _).base (by omega), by rw [setsW_length]; omega, fun j => row_setsW_leI hxl.out, ?_⟩
    exact (HBA.out.trans ((HB4.out.trans (hb7.mono h2)).mono h1)).setCell (by show w.heap.size ≤ w.heap.size + 2; omega) _

end Go.Proofs.YtmakhapdlkbbnaaDoor
