/- Walks: CliquesOf of the program. -/
import Derived.Test.YtdkmnmnncccgaaaDoorClB
namespace Go.Proofs.YtdkmnmnncccgaaaDoor
open Go.RowKit Go.Sort

/-- What CliquesOf returns. -/
def ClsS (g gg : List (List Int)) : Prop := (GOk g ∧ gg = (clsP g.length (adG g)).map natInts) ∨ (¬ GOk g ∧ gg = [])
theorem clsS_det {g gg hh : List (List Int)} (h : ClsS g gg) (k : ClsS g hh) : gg = hh := by
  rcases h with ⟨h1, rfl⟩ | ⟨h1, rfl⟩ <;> rcases k with ⟨k1, rfl⟩ | ⟨k1, rfl⟩
  · rfl
  · exact absurd h1 k1
  · exact absurd k1 h1
  · rfl
theorem cls_len {g : List (List Int)} (h : GOk g) : ((clsP g.length (adG g)).map natInts).length ≤ 65536 := by
  rw [List.length_map]
  exact Nat.le_trans (clsP_len _ _) (Nat.le_trans (Nat.pow_le_pow_right (by decide) h.le) (by decide))
theorem cls_row {g : List (List Int)} (h : GOk g) (j : Nat) : (row ((clsP g.length (adG g)).map natInts) j).length ≤ 32 := by
  by_cases hj : j < (clsP g.length (adG g)).length
  · have e : row ((clsP g.length (adG g)).map natInts) j = natInts (clsP g.length (adG g))[j] := by simp [row, hj]
    rw [e, natInts_length]
    obtain ⟨h1, h2⟩ := clsP_mem (List.getElem_mem hj)
    have := h.le
    by_cases he : (clsP g.length (adG g))[j] = []
    · rw [he]; simp
    · have := rising_room (lo := 0) (n := g.length) h1 (fun x hx => ⟨Nat.zero_le _, h2 x hx⟩) he
      omega
  · simp [row, hj]
theorem rows_cls {g : List (List Int)} (h : GOk g) : rowsOf (mskC (clsP g.length (adG g))) = (clsP g.length (adG g)).map natInts := by
  unfold rowsOf mskC
  rw [List.map_map]
  refine List.map_congr_left fun l hl => ?_
  have hm := clsP_mem hl
  have := h.le
  simp only [Function.comp]
  rw [bitsOf_maskN hm.1 fun x hx => by have := hm.2 x hx; omega]

set_option maxRecDepth 100000 in
set_option maxHeartbeats 2000000 in
theorem implCliquesOf_any (v : Value) (g : List (List Int)) (w : World) (hg : Gr w v g) (hT : Tab w) :
    Calls Tryd.prog 21 #[v] w fun e w' => ∃ (u : Value) (gg : List (List Int)), e = .returned u ∧ ClsS g gg ∧ DG w' w.heap.size (.agg #[u]) gg ∧ gg.length ≤ 65536 ∧ (∀ j, (row gg j).length ≤ 32) ∧ Below w.heap.size w w' := by
  have hg0 := hg
  obtain ⟨u, rfl, hr⟩ := hg
  obtain ⟨p, c, rfl, _⟩ := hr.shape
  have hbA := Lib.hid (below_alloc w (.cells #[.slice p g.length c] 29))
  have HG := Lib.hid (hg0.below hbA.out)
  have BX := Lib.hid (Box.new w (.slice p g.length c) 29)
  have HT := Lib.hid (hT.keep hbA.out)
  clear hr hg0 hT
  by_cases hok : GOk g
  case neg =>
    have hd := dec_false hok
    have Hok := Lib.hid hok
    clear hok
    go_enter Tryd.func21, Tryd.ntmps21
    go_wp2_with (go_at_call 42; refine (implGraphOk_any _ g _ HG.out).mono ?_; rintro e w2 ⟨he, hb2⟩; rw [hd] at he; subst he)
    go_ret
    exact ⟨_, [], rfl, .inr ⟨Hok.out, rfl⟩, ⟨_, [], rfl, rfl, World.ownsRow_nil _ _ _ _, ⟨fun j hj => by simp at hj, fun i j hi => by simp at hi⟩⟩, by simp, fun j => by simp [row], hbA.out.trans (hb2.mono hbA.out.size)⟩
  have hd := dec_true hok
  have HOK := Lib.hid hok
  have h16 := hok.le
  have hln : Hid ((mskC (clsP g.length (adG g))).length = (clsP g.length (adG g)).length) := Lib.hid (by simp [mskC])
  have hmb : Hid ((mskC (clsP g.length (adG g))).length ≤ 100000) := Lib.hid (by
    have := cls_len hok
    rw [List.length_map] at this
    rw [hln.out]
    omega)
  have hm32 : Hid (∀ s ∈ mskC (clsP g.length (adG g)), s < 4294967296) := Lib.hid (fun s hs => by
    obtain ⟨l, hl, rfl⟩ := List.mem_map.1 hs
    have := mask_nat_lt16 (l := l) (fun i hi => by have := (clsP_mem hl).2 i hi; omega)
    omega)
  clear hok
  go_enter Tryd.func21, Tryd.ntmps21
  go_wp2_with (first
    | (go_at_call 42; refine (implGraphOk_any _ g _ HG.out).mono ?_; rintro e w2 ⟨he, hb2⟩; rw [hd] at he; subst he; have hbx := (BX.out.keep hb2).cell)
    | (go_at_call 30; refine (netsOf_any _ g _ (HG.out.below hb2) HOK.out).mono ?_; rintro e w3 ⟨x, rfl, hown3, hb3⟩; have hx3 := Sl.of_owns hown3 (by omega); obtain ⟨xp, xc, rfl⟩ := owns_shapeC hown3; have HCB := Lib.hid (show ClBase w3 g xp xc from ⟨HOK.out, hx3, (HT.out.keep hb2).keep hb3⟩); clear hx3 hown3)
    | (go_at_call 43; refine (cliquesOf_any g xp xc _ HCB.out).mono ?_; rintro e w4 ⟨cv, rfl, ho4, hb4⟩; have HS4 := Lib.hid (Sl.of_owns ho4 (by have := hmb.out; rw [hln.out] at this; omega)); clear ho4)
    | (go_at_call 37; refine (results_any _ (mskC (clsP g.length (adG g))) hm32.out hmb.out _ (by rw [hln.out]; exact HS4.out) (HCB.out.tab.keep hb4)).mono ?_; rintro e w5 ⟨rv, rfl, hd5, hb5⟩; have HD5 := Lib.hid hd5; clear hd5))
  go_ret
  have s0 := hbA.out.size
  have s2 := hb2.size
  have s3 := hb3.size
  have s4 := hb4.size
  have hd5 := HD5.out
  rw [rows_cls HOK.out] at hd5
  exact ⟨_, _, rfl, .inl ⟨HOK.out, rfl⟩, DG.base hd5 (by omega), cls_len HOK.out, cls_row HOK.out, (((hbA.out.trans (hb2.mono s0)).trans (hb3.mono (by omega))).trans (hb4.mono (by omega))).trans (hb5.mono (by omega))⟩

end Go.Proofs.YtdkmnmnncccgaaaDoor
