/- Walks: PermsOk, of both. -/
import Derived.Test.YtbdcolhmhbfdoaaDoorPermD
import Derived.Test.YtbdcolhmhbfdoaaDoorSame
import Derived.Deep.RegionHeld3
import Derived.Deep.DeepCutAuto
namespace Go.Proofs.YtbdcolhmhbfdoaaDoor
open Go.RowKit

/-- What PermsOk answers. -/
def PmOk (g : List (List Int)) (a b : List Int) : Prop := GOk g ∧ LinesOk a b ∧ g = matG a.length (crN a b)

set_option maxRecDepth 100000 in
set_option maxHeartbeats 2000000 in
theorem specPermsOk_any (v av bv : Value) (g : List (List Int)) (a b : List Int) (w : World) (hg : Gr w v g) (ha : Nums w 2 .i64 av a) (hb : Nums w 2 .i64 bv b) :
    Calls Tryd.prog 36 #[v, av, bv] w fun e w' => e = .returned (.bool (dec (PmOk g a b))) ∧ Below w.heap.size w w' := by
  have hg0 := hg
  obtain ⟨u, rfl, hr⟩ := hg
  obtain ⟨p, c, rfl, _⟩ := hr.shape
  obtain ⟨ap, ac, rfl, _⟩ := id ha.shape
  obtain ⟨bp, bc, rfl, _⟩ := id hb.shape
  have hbA := Lib.hid (below_alloc w (.cells #[.slice p g.length c] 27))
  have BX := Lib.hid (Box.new w (.slice p g.length c) 27)
  have HG := Lib.hid (hg0.below hbA.out)
  have HA := Lib.hid (ha.below hbA.out)
  have HB := Lib.hid (hb.below hbA.out)
  have s0 := hbA.out.size
  clear hr hg0 ha hb
  by_cases h1 : GOk g
  case neg =>
    have hd := dec_false h1
    have H1 := Lib.hid h1
    clear h1
    go_enter Tryd.func36, Tryd.ntmps36
    go_upto_region 1 with fail
    obtain ⟨W1, hW1⟩ : ∃ W1, W1 = w.alloc (.cells #[.slice p g.length c] 27) := ⟨_, rfl⟩
    rw [← hW1]
    rw [← hW1] at HG HA HB BX hbA s0
    have HG1 := HG
    have HA1 := HA
    have HB1 := HB
    have qx := BX.out.cell
    clear hW1
    go_cut [6] (fun s wx => s = .bool false ∧ Below W1.heap.size W1 wx)
    case first =>
      refine wp_region_held_drew (S := fun w' => w'.cell? ⟨w.heap.size, 0, none⟩ = some (.slice p g.length c)) (by kernel_rfl) ?_ (fun hHeld => ?_)
      · exact qx
      refine wpAnyH_take (i := 0) (v := .agg #[.slice p g.length c]) rfl (by kernel_rfl) (by kernel_rfl) (by kernel_rfl) (fun _ _ _ h => h) (Or.inl ⟨by rfl, ?_⟩) (by assumption) ?_
      · intro wz hSw; (try dsimp only at hSw); go_simp; try rfl
      try simp only [Act.put, List.getElem_toArray, List.getElem_cons_succ, List.getElem_cons_zero, List.setIfInBounds_toArray, List.set_cons_zero, List.set_cons_succ]
      refine wpAnyH_ready (rs := [1]) (by kernel_rfl) (by simp) ?_
      refine AllReadyH.cons rfl (fun K hK => ?_) AllReadyH.nil
      go_simp
      go_at_call 60
      refine (specGraphOk_any _ g _ (HG1.out.below (below_dN (Below.refl _ _) 1))).mono ?_
      rintro e w2 ⟨he, hb2⟩
      rw [hd] at he
      subst he
      have hb2' : Below W1.heap.size W1 w2 := (below_dN (Below.refl _ _) 1).trans hb2
      refine hK.out _ _ ?_ (fun hHeld => ?_)
      · exact hb2'.at' qx
      clear hK K
      try simp only [Act.put, List.getElem_toArray, List.getElem_cons_succ, List.getElem_cons_zero, List.setIfInBounds_toArray, List.set_cons_zero, List.set_cons_succ]
      refine wpAnyH_take (i := 2) (v := .bool false) rfl (by kernel_rfl) (by kernel_rfl) (by kernel_rfl) (fun _ _ _ h => h) (Or.inl ⟨by rfl, ?_⟩) (by assumption) ?_
      · intro wz hSw; (try dsimp only at hSw); go_simp; try rfl
      try simp only [Act.put, List.getElem_toArray, List.getElem_cons_succ, List.getElem_cons_zero, List.setIfInBounds_toArray, List.set_cons_zero, List.set_cons_succ]
      refine wpAnyH_take (i := 3) (v := undef) rfl (by kernel_rfl) (by kernel_rfl) (by kernel_rfl) (fun _ _ _ h => h) (Or.inr ⟨by kernel_rfl, rfl⟩) (by assumption) ?_
      try simp only [Act.put, List.getElem_toArray, List.getElem_cons_succ, List.getElem_cons_zero, List.setIfInBounds_toArray, List.set_cons_zero, List.set_cons_succ]
      refine wpAnyH_take (i := 4) (v := undef) rfl (by kernel_rfl) (by kernel_rfl) (by kernel_rfl) (fun _ _ _ h => h) (Or.inr ⟨by kernel_rfl, rfl⟩) (by assumption) ?_
      try simp only [Act.put, List.getElem_toArray, List.getElem_cons_succ, List.getElem_cons_zero, List.setIfInBounds_toArray, List.set_cons_zero, List.set_cons_succ]
      refine wpAnyH_take (i := 5) (v := undef) rfl (by kernel_rfl) (by kernel_rfl) (by kernel_rfl) (fun _ _ _ h => h) (Or.inr ⟨by kernel_rfl, rfl⟩) (by assumption) ?_
      try simp only [Act.put, List.getElem_toArray, List.getElem_cons_succ, List.getElem_cons_zero, List.setIfInBounds_toArray, List.set_cons_zero, List.set_cons_succ]
      refine wpAnyH_take (i := 6) (v := .bool false) rfl (by kernel_rfl) (by kernel_rfl) (by kernel_rfl) (fun _ _ _ h => h) (Or.inl ⟨by rfl, ?_⟩) (by assumption) ?_
      · intro wz hSw; (try dsimp only at hSw); go_simp; try rfl
      try simp only [Act.put, List.getElem_toArray, List.getElem_cons_succ, List.getElem_cons_zero, List.setIfInBounds_toArray, List.set_cons_zero, List.set_cons_succ]
      refine wpAnyH_take (i := 7) (v := .bool false) rfl (by kernel_rfl) (by kernel_rfl) (by kernel_rfl) (fun _ _ _ h => h) (Or.inl ⟨by rfl, ?_⟩) (by assumption) ?_
      · intro wz hSw; (try dsimp only at hSw); go_simp; try rfl
      try simp only [Act.put, List.getElem_toArray, List.getElem_cons_succ, List.getElem_cons_zero, List.setIfInBounds_toArray, List.set_cons_zero, List.set_cons_succ]
      refine wpAnyH_take (i := 8) (v := undef) rfl (by kernel_rfl) (by kernel_rfl) (by kernel_rfl) (fun _ _ _ h => h) (Or.inr ⟨by kernel_rfl, rfl⟩) (by assumption) ?_
      try simp only [Act.put, List.getElem_toArray, List.getElem_cons_succ, List.getElem_cons_zero, List.setIfInBounds_toArray, List.set_cons_zero, List.set_cons_succ]
      refine wpAnyH_take (i := 9) (v := undef) rfl (by kernel_rfl) (by kernel_rfl) (by kernel_rfl) (fun _ _ _ h => h) (Or.inr ⟨by kernel_rfl, rfl⟩) (by assumption) ?_
      try simp only [Act.put, List.getElem_toArray, List.getElem_cons_succ, List.getElem_cons_zero, List.setIfInBounds_toArray, List.set_cons_zero, List.set_cons_succ]
      refine wpAnyH_take (i := 10) (v := undef) rfl (by kernel_rfl) (by kernel_rfl) (by kernel_rfl) (fun _ _ _ h => h) (Or.inr ⟨by kernel_rfl, rfl⟩) (by assumption) ?_
      try simp only [Act.put, List.getElem_toArray, List.getElem_cons_succ, List.getElem_cons_zero, List.setIfInBounds_toArray, List.set_cons_zero, List.set_cons_succ]
      refine wpAnyH_take (i := 11) (v := undef) rfl (by kernel_rfl) (by kernel_rfl) (by kernel_rfl) (fun _ _ _ h => h) (Or.inr ⟨by kernel_rfl, rfl⟩) (by assumption) ?_
      try simp only [Act.put, List.getElem_toArray, List.getElem_cons_succ, List.getElem_cons_zero, List.setIfInBounds_toArray, List.set_cons_zero, List.set_cons_succ]
      refine wpAnyH_take (i := 12) (v := undef) rfl (by kernel_rfl) (by kernel_rfl) (by kernel_rfl) (fun _ _ _ h => h) (Or.inr ⟨by kernel_rfl, rfl⟩) (by assumption) ?_
      try simp only [Act.put, List.getElem_toArray, List.getElem_cons_succ, List.getElem_cons_zero, List.setIfInBounds_toArray, List.set_cons_zero, List.set_cons_succ]
      refine wpAnyH_take (i := 13) (v := .bool false) rfl (by kernel_rfl) (by kernel_rfl) (by kernel_rfl) (fun _ _ _ h => h) (Or.inl ⟨by rfl, ?_⟩) (by assumption) ?_
      · intro wz hSw; (try dsimp only at hSw); go_simp; try rfl
      try simp only [Act.put, List.getElem_toArray, List.getElem_cons_succ, List.getElem_cons_zero, List.setIfInBounds_toArray, List.set_cons_zero, List.set_cons_succ]
      refine wpAnyH_take (i := 14) (v := .bool false) rfl (by kernel_rfl) (by kernel_rfl) (by kernel_rfl) (fun _ _ _ h => h) (Or.inl ⟨by rfl, ?_⟩) (by assumption) ?_
      · intro wz hSw; (try dsimp only at hSw); go_simp; try rfl
      try simp only [Act.put, List.getElem_toArray, List.getElem_cons_succ, List.getElem_cons_zero, List.setIfInBounds_toArray, List.set_cons_zero, List.set_cons_succ]
      refine wpAnyH_done (by kernel_rfl) ?_ _
      go_wp2
      go_meet
      exact ⟨by kernel_rfl, hb2'⟩
    case rest =>
      obtain ⟨rfl, hbc⟩ := hcut
      go_wp2
      go_ret
      exact ⟨ret_bool (false_dec fun e => H1.out e.1), hbA.out.trans (hbc.mono s0)⟩
  have hd := dec_true h1
  have H1 := Lib.hid h1
  clear h1
  by_cases h2 : LinesOk a b
  case neg =>
    have hd2 := dec_false h2
    have H2 := Lib.hid h2
    clear h2
    go_enter Tryd.func36, Tryd.ntmps36
    go_upto_region 1 with fail
    obtain ⟨W1, hW1⟩ : ∃ W1, W1 = w.alloc (.cells #[.slice p g.length c] 27) := ⟨_, rfl⟩
    rw [← hW1]
    rw [← hW1] at HG HA HB BX hbA s0
    have HG1 := HG
    have HA1 := HA
    have HB1 := HB
    have qx := BX.out.cell
    clear hW1
    go_cut [6] (fun s wx => s = .bool false ∧ Below W1.heap.size W1 wx)
    case first =>
      refine wp_region_held_drew (S := fun w' => w'.cell? ⟨w.heap.size, 0, none⟩ = some (.slice p g.length c)) (by kernel_rfl) ?_ (fun hHeld => ?_)
      · exact qx
      refine wpAnyH_take (i := 0) (v := .agg #[.slice p g.length c]) rfl (by kernel_rfl) (by kernel_rfl) (by kernel_rfl) (fun _ _ _ h => h) (Or.inl ⟨by rfl, ?_⟩) (by assumption) ?_
      · intro wz hSw; (try dsimp only at hSw); go_simp; try rfl
      try simp only [Act.put, List.getElem_toArray, List.getElem_cons_succ, List.getElem_cons_zero, List.setIfInBounds_toArray, List.set_cons_zero, List.set_cons_succ]
      refine wpAnyH_ready (rs := [1]) (by kernel_rfl) (by simp) ?_
      refine AllReadyH.cons rfl (fun K hK => ?_) AllReadyH.nil
      go_simp
      go_at_call 60
      refine (specGraphOk_any _ g _ (HG1.out.below (below_dN (Below.refl _ _) 1))).mono ?_
      rintro e w2 ⟨he, hb2⟩
      rw [hd] at he
      subst he
      have hb2' : Below W1.heap.size W1 w2 := (below_dN (Below.refl _ _) 1).trans hb2
      refine hK.out _ _ ?_ (fun hHeld => ?_)
      · exact hb2'.at' qx
      clear hK K
      try simp only [Act.put, List.getElem_toArray, List.getElem_cons_succ, List.getElem_cons_zero, List.setIfInBounds_toArray, List.set_cons_zero, List.set_cons_succ]
      refine wpAnyH_take (i := 2) (v := .bool true) rfl (by kernel_rfl) (by kernel_rfl) (by kernel_rfl) (fun _ _ _ h => h) (Or.inl ⟨by rfl, ?_⟩) (by assumption) ?_
      · intro wz hSw; (try dsimp only at hSw); go_simp; try rfl
      try simp only [Act.put, List.getElem_toArray, List.getElem_cons_succ, List.getElem_cons_zero, List.setIfInBounds_toArray, List.set_cons_zero, List.set_cons_succ]
      refine wpAnyH_take (i := 3) (v := .slice ap a.length ac) rfl (by kernel_rfl) (by kernel_rfl) (by kernel_rfl) (fun _ _ _ h => h) (Or.inl ⟨by rfl, ?_⟩) (by assumption) ?_
      · intro wz hSw; (try dsimp only at hSw); go_simp; try rfl
      try simp only [Act.put, List.getElem_toArray, List.getElem_cons_succ, List.getElem_cons_zero, List.setIfInBounds_toArray, List.set_cons_zero, List.set_cons_succ]
      refine wpAnyH_take (i := 4) (v := .slice bp b.length bc) rfl (by kernel_rfl) (by kernel_rfl) (by kernel_rfl) (fun _ _ _ h => h) (Or.inl ⟨by rfl, ?_⟩) (by assumption) ?_
      · intro wz hSw; (try dsimp only at hSw); go_simp; try rfl
      try simp only [Act.put, List.getElem_toArray, List.getElem_cons_succ, List.getElem_cons_zero, List.setIfInBounds_toArray, List.set_cons_zero, List.set_cons_succ]
      refine wpAnyH_ready (rs := [5]) (by kernel_rfl) (by simp) ?_
      refine AllReadyH.cons rfl (fun K hK => ?_) AllReadyH.nil
      go_simp
      go_at_call 54
      refine (l15Lines_any _ _ a b _ (HA1.out.below hb2') (HB1.out.below hb2')).mono ?_
      rintro e w3 ⟨he, hb3⟩
      rw [hd2] at he
      subst he
      have hb3' : Below W1.heap.size W1 w3 := hb2'.trans (hb3.mono hb2'.size)
      refine hK.out _ _ ?_ (fun hHeld => ?_)
      · exact hb3'.at' qx
      clear hK K
      try simp only [Act.put, List.getElem_toArray, List.getElem_cons_succ, List.getElem_cons_zero, List.setIfInBounds_toArray, List.set_cons_zero, List.set_cons_succ]
      refine wpAnyH_take (i := 6) (v := .bool false) rfl (by kernel_rfl) (by kernel_rfl) (by kernel_rfl) (fun _ _ _ h => h) (Or.inl ⟨by rfl, ?_⟩) (by assumption) ?_
      · intro wz hSw; (try dsimp only at hSw); go_simp; try rfl
      try simp only [Act.put, List.getElem_toArray, List.getElem_cons_succ, List.getElem_cons_zero, List.setIfInBounds_toArray, List.set_cons_zero, List.set_cons_succ]
      refine wpAnyH_take (i := 7) (v := .bool false) rfl (by kernel_rfl) (by kernel_rfl) (by kernel_rfl) (fun _ _ _ h => h) (Or.inl ⟨by rfl, ?_⟩) (by assumption) ?_
      · intro wz hSw; (try dsimp only at hSw); go_simp; try rfl
      try simp only [Act.put, List.getElem_toArray, List.getElem_cons_succ, List.getElem_cons_zero, List.setIfInBounds_toArray, List.set_cons_zero, List.set_cons_succ]
      refine wpAnyH_take (i := 8) (v := undef) rfl (by kernel_rfl) (by kernel_rfl) (by kernel_rfl) (fun _ _ _ h => h) (Or.inr ⟨by kernel_rfl, rfl⟩) (by assumption) ?_
      try simp only [Act.put, List.getElem_toArray, List.getElem_cons_succ, List.getElem_cons_zero, List.setIfInBounds_toArray, List.set_cons_zero, List.set_cons_succ]
      refine wpAnyH_take (i := 9) (v := undef) rfl (by kernel_rfl) (by kernel_rfl) (by kernel_rfl) (fun _ _ _ h => h) (Or.inr ⟨by kernel_rfl, rfl⟩) (by assumption) ?_
      try simp only [Act.put, List.getElem_toArray, List.getElem_cons_succ, List.getElem_cons_zero, List.setIfInBounds_toArray, List.set_cons_zero, List.set_cons_succ]
      refine wpAnyH_take (i := 10) (v := undef) rfl (by kernel_rfl) (by kernel_rfl) (by kernel_rfl) (fun _ _ _ h => h) (Or.inr ⟨by kernel_rfl, rfl⟩) (by assumption) ?_
      try simp only [Act.put, List.getElem_toArray, List.getElem_cons_succ, List.getElem_cons_zero, List.setIfInBounds_toArray, List.set_cons_zero, List.set_cons_succ]
      refine wpAnyH_take (i := 11) (v := undef) rfl (by kernel_rfl) (by kernel_rfl) (by kernel_rfl) (fun _ _ _ h => h) (Or.inr ⟨by kernel_rfl, rfl⟩) (by assumption) ?_
      try simp only [Act.put, List.getElem_toArray, List.getElem_cons_succ, List.getElem_cons_zero, List.setIfInBounds_toArray, List.set_cons_zero, List.set_cons_succ]
      refine wpAnyH_take (i := 12) (v := undef) rfl (by kernel_rfl) (by kernel_rfl) (by kernel_rfl) (fun _ _ _ h => h) (Or.inr ⟨by kernel_rfl, rfl⟩) (by assumption) ?_
      try simp only [Act.put, List.getElem_toArray, List.getElem_cons_succ, List.getElem_cons_zero, List.setIfInBounds_toArray, List.set_cons_zero, List.set_cons_succ]
      refine wpAnyH_take (i := 13) (v := .bool false) rfl (by kernel_rfl) (by kernel_rfl) (by kernel_rfl) (fun _ _ _ h => h) (Or.inl ⟨by rfl, ?_⟩) (by assumption) ?_
      · intro wz hSw; (try dsimp only at hSw); go_simp; try rfl
      try simp only [Act.put, List.getElem_toArray, List.getElem_cons_succ, List.getElem_cons_zero, List.setIfInBounds_toArray, List.set_cons_zero, List.set_cons_succ]
      refine wpAnyH_take (i := 14) (v := .bool false) rfl (by kernel_rfl) (by kernel_rfl) (by kernel_rfl) (fun _ _ _ h => h) (Or.inl ⟨by rfl, ?_⟩) (by assumption) ?_
      · intro wz hSw; (try dsimp only at hSw); go_simp; try rfl
      try simp only [Act.put, List.getElem_toArray, List.getElem_cons_succ, List.getElem_cons_zero, List.setIfInBounds_toArray, List.set_cons_zero, List.set_cons_succ]
      refine wpAnyH_done (by kernel_rfl) ?_ _
      go_wp2
      go_meet
      exact ⟨by kernel_rfl, hb3'⟩
    case rest =>
      obtain ⟨rfl, hbc⟩ := hcut
      go_wp2
      go_ret
      exact ⟨ret_bool (false_dec fun e => H2.out e.2.1), hbA.out.trans (hbc.mono s0)⟩
  have hd2 := dec_true h2
  have h16 := h2.1.2.1
  have H2 := Lib.hid h2
  have HML := Lib.hid (matG_length a.length (crN a b))
  clear h2
  go_enter Tryd.func36, Tryd.ntmps36
  go_upto_region 1 with fail
  obtain ⟨W1, hW1⟩ : ∃ W1, W1 = w.alloc (.cells #[.slice p g.length c] 27) := ⟨_, rfl⟩
  rw [← hW1]
  rw [← hW1] at HG HA HB BX hbA s0
  have HG1 := HG
  have HA1 := HA
  have HB1 := HB
  have qx := BX.out.cell
  clear hW1
  go_cut [6] (fun s wx => s = .bool (dec (GOk g ∧ GOk (matG a.length (crN a b)) ∧ g = matG a.length (crN a b))) ∧ Below W1.heap.size W1 wx)
  case first =>
    go_region_held3 (fun w' => w'.cell? ⟨w.heap.size, 0, none⟩ = some (.slice p g.length c))
      (first | go_keep | exact BWD.at' qx | exact BWC.at' qx | exact BWB.at' qx | exact BWA.at' qx)
      (first
        | (go_at_call 61; refine (specSameGraph_any _ _ g (matG a.length (crN a b)) _ (HG1.out.below BWC) HD4.out).mono ?_; rintro e w5 ⟨rfl, hb5⟩; have BWD : Below W1.heap.size W1 w5 := BWC.trans (hb5.mono BWC.size))
        | (go_at_call 58; refine (l15Graph_any _ _ a b H2.out _ (HA1.out.below BWB) (HB1.out.below BWB)).mono ?_; rintro e w4 ⟨u4, rfl, hd4, hb4⟩; obtain ⟨p4, c4, rfl⟩ := hd4.shape; have HD4 := Lib.hid (hd4.gr (by have := HML.out; omega) (fun j _ => by have := matG_row_le (m := a.length) (E := crN a b) j; omega)); have BWC : Below W1.heap.size W1 w4 := BWB.trans (hb4.mono BWB.size); clear hd4)
        | (go_at_call 54; refine (l15Lines_any _ _ a b _ (HA1.out.below BWA) (HB1.out.below BWA)).mono ?_; rintro e w3 ⟨he, hb3⟩; rw [hd2] at he; subst he; have BWB : Below W1.heap.size W1 w3 := BWA.trans (hb3.mono BWA.size))
        | (go_at_call 60; refine (specGraphOk_any _ g _ (HG1.out.below (below_dN (Below.refl _ _) 1))).mono ?_; rintro e w2 ⟨he, hb2⟩; rw [hd] at he; subst he; have BWA : Below W1.heap.size W1 w2 := (below_dN (Below.refl _ _) 1).trans hb2))
    all_goals go_wp2
    all_goals go_meet
    all_goals exact ⟨rfl, BWD⟩
  case rest =>
    obtain ⟨rfl, hbc⟩ := hcut
    go_wp2
    go_ret
    exact ⟨ret_bool (dec_congr ⟨fun e => ⟨H1.out, H2.out, e.2.2⟩, fun e => ⟨H1.out, permG_ok H2.out, e.2.2⟩⟩), hbA.out.trans (hbc.mono s0)⟩

set_option maxRecDepth 100000 in
set_option maxHeartbeats 2000000 in
theorem implPermsOk_any (v av bv : Value) (g : List (List Int)) (a b : List Int) (w : World) (hg : Gr w v g) (ha : Nums w 2 .i64 av a) (hb : Nums w 2 .i64 bv b) (hT : Tab w) :
    Calls Tryd.prog 37 #[v, av, bv] w fun e w' => e = .returned (.bool (dec (PmOk g a b))) ∧ Below w.heap.size w w' := by
  have hg0 := hg
  obtain ⟨u, rfl, hr⟩ := hg
  obtain ⟨p, c, rfl, _⟩ := hr.shape
  obtain ⟨ap, ac, rfl, _⟩ := id ha.shape
  obtain ⟨bp, bc, rfl, _⟩ := id hb.shape
  have hbA := Lib.hid (below_alloc w (.cells #[.slice p g.length c] 27))
  have BX := Lib.hid (Box.new w (.slice p g.length c) 27)
  have HG := Lib.hid (hg0.below hbA.out)
  have HA := Lib.hid (ha.below hbA.out)
  have HB := Lib.hid (hb.below hbA.out)
  have HT := Lib.hid (hT.keep hbA.out)
  have s0 := hbA.out.size
  clear hr hg0 ha hb hT
  by_cases h2 : LinesOk a b
  case neg =>
    have H2 := Lib.hid h2
    clear h2
    go_enter Tryd.func37, Tryd.ntmps37
    go_wp2_with (go_at_call 35; refine (implPermGraph_any _ _ a b _ HA.out HB.out HT.out).mono ?_; rintro e w2 ⟨u2, gg, ok, rfl, hS, hd2, _, _, hb2⟩; obtain ⟨p2, c2, rfl⟩ := hd2.shape; obtain ⟨rfl, rfl⟩ := permS_no hS H2.out)
    go_ret
    exact ⟨ret_bool (false_dec fun e => H2.out e.2.1), (hbA.out.trans (hb2.mono s0)).alloc (Nat.le_trans s0 hb2.size) _⟩
  have h16 := h2.1.2.1
  have H2 := Lib.hid h2
  have HML := Lib.hid (matG_length a.length (crN a b))
  clear h2
  go_enter Tryd.func37, Tryd.ntmps37
  go_wp2_with (first
    | (go_at_call 62; refine (implSameGraph_any _ _ g (matG a.length (crN a b)) _ HG2.out HD2.out).mono ?_; rintro e w3 ⟨rfl, hb3⟩)
    | (go_at_call 35; refine (implPermGraph_any _ _ a b _ HA.out HB.out HT.out).mono ?_; rintro e w2 ⟨u2, gg, ok, rfl, hS, hd2, hgl, hgr, hb2⟩; have hgl16 := Lib.hid hgl; obtain ⟨p2, c2, rfl⟩ := hd2.shape; obtain ⟨rfl, rfl⟩ := permS_yes hS H2.out; have HD2 := Lib.hid ((hd2.gr (by omega) (fun j _ => by have := hgr j; omega)).below (below_alloc w2 (.cells #[.slice p2 (matG a.length (crN a b)).length c2] 27))); have HG2 := Lib.hid ((HG.out.below hb2).below (below_alloc w2 (.cells #[.slice p2 (matG a.length (crN a b)).length c2] 27))); have q2 := ((BX.out.keep hb2).alloc (.cells #[.slice p2 (matG a.length (crN a b)).length c2] 27)).cell; have HB2 := Lib.hid ((hbA.out.trans (hb2.mono s0)).alloc (Nat.le_trans s0 hb2.size) (.cells #[.slice p2 (matG a.length (crN a b)).length c2] 27)); clear hgr hd2 hb2))
  go_ret
  refine ⟨ret_bool (dec_congr ⟨fun e => ⟨e.1, H2.out, e.2.2⟩, fun e => ⟨e.1, permG_ok H2.out, e.2.2⟩⟩), HB2.out.trans (hb3.mono HB2.out.size)⟩

end Go.Proofs.YtbdcolhmhbfdoaaDoor
