/- Walk: the program's EdgeParts. -/
import Derived.Test.YtjdlmjmhlbpooaaDoorBwQ34
namespace Go.Proofs.YtjdlmjmhlbpooaaDoor
open Go.RowKit

theorem mskL_lt {n : Nat} (hn : n ≤ 16) {ps : List (List Nat)} (h : ∀ l ∈ ps, l.Pairwise (· < ·) ∧ ∀ i ∈ l, i < n) : ∀ s ∈ mskL ps, s < 65536 := by
  intro s hs
  obtain ⟨l, hl, rfl⟩ := List.mem_map.1 hs
  exact mask_nat_lt16 fun i hi => by have := (h l hl).2 i hi; omega
theorem rowsOf_mskL {n : Nat} (hn : n ≤ 16) {ps : List (List Nat)} (h : ∀ l ∈ ps, l.Pairwise (· < ·) ∧ ∀ i ∈ l, i < n) : rowsOf (mskL ps) = ps.map natInts := by
  unfold rowsOf mskL
  rw [List.map_map]
  refine List.map_congr_left fun l hl => ?_
  show natInts (bitsOf (mask (natInts l))) = natInts l
  congr 1
  refine rising_ext _ _ (bitsOf_rising _) (h l hl).1 fun i => ?_
  rw [mem_left (mask_nat_lt16 fun i hi => by have := (h l hl).2 i hi; omega), mask_bit, decide_eq_true_eq]

/-- What the loop over the bridges carries. -/
structure EpI (w wr : World) (x ev : Value) (Bx Be n : Nat) (brs : List (Nat × Nat)) (F : Nat → Nat → Bool) : Prop where
  net : wr.ownsRow Bx 69 1 x n ((indN n F).map u32v)
  edg : PrsO wr Be ev brs
  bel : Below w.heap.size w wr
  tab : Tab wr
  tpos : 0 < w.heap.size
  b2 : w.heap.size ≤ Bx
theorem EpI.next {w wr wx : World} {x ev : Value} {Bx Be n : Nat} {brs : List (Nat × Nat)} {F : Nat → Nat → Bool} (h : EpI w wr x ev Bx Be n brs F) (hb : Below wr.heap.size wr wx) : EpI w wx x ev Bx Be n brs F :=
  ⟨ownsRow_below h.net hb, h.edg.below hb, h.bel.trans (hb.mono h.bel.size), h.tab.keep hb, h.tpos, h.b2⟩
theorem EpI.turn {w wr wx : World} {x ev : Value} {Bx Be n : Nat} {brs : List (Nat × Nat)} {F F' : Nat → Nat → Bool} (h : EpI w wr x ev Bx Be n brs F) (ho : wx.ownsRow Bx 69 1 x n ((indN n F').map u32v)) (hg : wr.grownBy wx x.ownBlock) : EpI w wx x ev Bx Be n brs F' :=
  ⟨ho, h.edg.otherT h.net hg, below_grown h.bel h.net hg h.b2 h.bel.size, h.tab.grownP hg (fun e => by
    have e' : x.ownBlock = some 0 := e.symm
    have := (h.net.lt _ e').1
    have := h.b2
    have := h.tpos
    omega), h.tpos, h.b2⟩

set_option maxRecDepth 100000 in
set_option maxHeartbeats 4000000 in
theorem implEdgeParts_any (v : Value) (g : List (List Int)) (w : World) (hg : Gr w v g) (hT : Tab w) :
    Calls Tryd.prog 45 #[v] w fun e w' => ∃ (u : Value) (gg : List (List Int)), e = .returned u ∧ EpS g gg ∧ DG w' w.heap.size (.agg #[u]) gg ∧ gg.length ≤ 32 ∧ (∀ j, (row gg j).length ≤ 16) ∧ Below w.heap.size w w' := by
  have hg0 := hg
  obtain ⟨u, rfl, hr⟩ := hg
  obtain ⟨p, c, rfl, _⟩ := hr.shape
  have hbA := Lib.hid (below_alloc w (.cells #[.slice p g.length c] 29))
  have HG := Lib.hid (hg0.below hbA.out)
  have BX := Lib.hid (Box.new w (.slice p g.length c) 29)
  have HT := Lib.hid (hT.keep hbA.out)
  have HTP := Lib.hid hT.pos
  clear hr hg0 hT
  by_cases hok : GOk g
  case neg =>
    have hd := dec_false hok
    have Hok := Lib.hid hok
    clear hok
    go_enter Tryd.func45, Tryd.ntmps45
    go_wp2_with (go_at_call 32; refine (implGraphOk_any _ g _ HG.out).mono ?_; rintro e w2 ⟨he, hb2⟩; rw [hd] at he; subst he)
    go_ret
    exact ⟨_, [], rfl, .inr ⟨Hok.out, rfl⟩, ⟨_, [], rfl, rfl, World.ownsRow_nil _ _ _ _, ⟨fun j hj => by simp at hj, fun i j hi => by simp at hi⟩⟩, by simp, fun j => by simp [row], hbA.out.trans (hb2.mono hbA.out.size)⟩
  have hd := dec_true hok
  have h16 := hok.le
  have HOK := Lib.hid hok
  obtain ⟨W, hW⟩ : ∃ W, W = 2 ^ g.length - 1 := ⟨_, rfl⟩
  have HW := Lib.hid hW
  have HLE : Hid ((brdL g.length (ofG g) (edN g.length (ofG g) g.length)).length ≤ 256) := Lib.hid (by
    have := edN_length g.length (ofG g) g.length
    have := brdL_length g.length (ofG g) (edN g.length (ofG g) g.length)
    have : g.length * g.length ≤ 16 * 16 := Nat.mul_le_mul h16 h16
    omega)
  have HMB : Hid (∀ e ∈ brdL g.length (ofG g) (edN g.length (ofG g) g.length), e.1 < g.length ∧ e.2 < g.length ∧ e.1 < e.2) := Lib.hid fun e he => by
    have := mem_edN (Nat.le_refl _) (mem_brdL he)
    exact ⟨this.1, this.2.1, this.2.2.1⟩
  clear hok hW
  go_enter Tryd.func45, Tryd.ntmps45
  go_wp2_with (first
    | (go_at_call 32; refine (implGraphOk_any _ g _ HG.out).mono ?_; rintro e w2 ⟨he, hb2⟩; rw [hd] at he; subst he; have hbx := (BX.out.keep hb2).cell)
    | (go_at_call 57; refine (netsOf_any _ g _ (HG.out.below hb2) HOK.out).mono ?_; rintro e w3 ⟨x, rfl, hown3, hb3⟩; obtain ⟨xp, xc, rfl⟩ := owns_shapeA hown3; have hbx3 := hb3.at' hbx; have HO3 := Lib.hid hown3; clear hown3)
    | (go_at_call 106; refine (bridgesOf_any _ g HOK.out _ ((HG.out.below hb2).below hb3) ((HT.out.keep hb2).keep hb3)).mono ?_; rintro e w4 ⟨ev, rfl, hpe, hT4, hb4⟩; have HPE := Lib.hid hpe; have HT4 := Lib.hid hT4; obtain ⟨ep, ec, rfl⟩ := hpe.shape; clear hpe hT4))
  generalize hbr : brdL g.length (ofG g) (edN g.length (ofG g) g.length) = brs at HLE HMB HPE
  have HBR := Lib.hid hbr
  have s2 := hb2.size
  rw [size_alloc] at s2
  have s3 := hb3.size
  have s4 := hb4.size
  have START : Hid (EpI w w4 (.slice xp g.length xc) (.slice ep brs.length ec) w2.heap.size w3.heap.size g.length brs (cutAll (ofG g) (brs.take 0))) := Lib.hid
    { net := by
        rw [List.take_zero]
        show w4.ownsRow _ _ _ _ _ ((indN g.length (ofG g)).map u32v)
        rw [indN_ofG HOK.out]
        exact ownsRow_below HO3.out hb4
      edg := HPE.out
      bel := ((hbA.out.trans (hb2.mono hbA.out.size)).trans (hb3.mono (by omega))).trans (hb4.mono (by omega))
      tab := HT4.out
      tpos := HTP.out
      b2 := by omega }
  clear hb2 hb3 hb4 hbx hbx3 hbr
  go_loopw [14] (fun i wr => ∃ t : Nat, t ≤ brs.length ∧ i = .int .i64 t ∧ EpI w wr (.slice xp g.length xc) (.slice ep brs.length ec) w2.heap.size w3.heap.size g.length brs (cutAll (ofG g) (brs.take t))) (fun i _ => brs.length - (intOf i).toNat)
  case atStart => exact ⟨0, Nat.zero_le _, rfl, START.out⟩
  case round =>
    clear START
    obtain ⟨t, ht, rfl, hI⟩ := hrel
    have HI := Lib.hid hI
    have hle256 := HLE.out
    by_cases hlt : t < brs.length
    · obtain ⟨eb, eo, rp, rc, rfl, hce, hne⟩ := hI.edg.get hlt
      have hmem := HMB.out _ (List.getElem_mem hlt)
      have htk := Lib.hid (take_snoc brs t hlt)
      obtain ⟨⟨a, b⟩, hab⟩ : ∃ e : Nat × Nat, e = brs[t] := ⟨_, rfl⟩
      rw [← hab] at hmem hne htk
      obtain ⟨ha, hb, hlt2⟩ := hmem
      simp only at ha hb hlt2 hne
      obtain ⟨rb, ro, rfl, hc0⟩ := hne.get (k := 0) (by simp)
      obtain ⟨_, _, e1, hc1⟩ := hne.get (k := 1) (by simp)
      cases e1
      have HNE := Lib.hid hne
      simp only [List.getElem_cons_zero, List.getElem_cons_succ, Nat.add_zero] at hc0 hc1
      have hne2 : a ≠ b := by omega
      have HPT : Hid (∀ wz, Below wr.heap.size wr wz → Calls Tryd.prog 66 #[.slice xp g.length xc, .int .i64 a, .int .i64 b] wz fun e w' => e = .returned (.tuple #[]) ∧ EpI w w' (.slice xp g.length xc) (.slice (some ⟨eb, eo, none⟩) brs.length ec) w2.heap.size w3.heap.size g.length brs (cutAll (ofG g) (brs.take (t + 1))) ∧ w'.cell? ⟨rb, ro, none⟩ = some (.int .i64 a) ∧ w'.cell? ⟨rb, ro + 1, none⟩ = some (.int .i64 b)) := Lib.hid (by
        intro wz hz
        have hIz := HI.out.next hz
        have h := part_any (.slice xp g.length xc) a b (indN g.length (cutAll (ofG g) (brs.take t))) a b w2.heap.size rfl rfl (by rw [indN_length]; exact ha) (by rw [indN_length]; exact hb) hne2 (by rw [indN_length]; exact h16) (indN_lt16 h16) wz (by rw [indN_length]; exact hIz.net)
        rw [indN_length, partN_indN h16 ha hb hne2] at h
        refine h.mono fun e w' ⟨h1, h2, h3⟩ => ⟨h1, ?_, ?_⟩
        · rw [htk.out, cutAll_snoc]
          exact hIz.turn h2 h3
        · have hn := (HNE.out.below hz).other hIz.net h3 (by decide)
          obtain ⟨_, _, e1, q0⟩ := hn.get (k := 0) (by simp)
          cases e1
          obtain ⟨_, _, e1, q1⟩ := hn.get (k := 1) (by simp)
          cases e1
          simp only [List.getElem_cons_zero, List.getElem_cons_succ, Nat.add_zero] at q0 q1
          exact ⟨q0, q1⟩)
      clear hI hne hab
      go_upto_region 7 with fail
      go_region_held3 (fun w' => w'.cell? ⟨rb, ro, none⟩ = some (.int .i64 a) ∧ w'.cell? ⟨rb, ro + 1, none⟩ = some (.int .i64 b))
        (first | go_keep | exact ⟨hq0, hq1⟩ | exact ⟨hc0, hc1⟩)
        (first | (go_at_call 66; refine (HPT.out _ (below_dN (Below.refl _ _) 1)).mono ?_; rintro e w6 ⟨rfl, hI6, hq0, hq1⟩))
      all_goals go_wp2
      all_goals go_roundw
      all_goals first
        | exact ⟨t + 1, by omega, by go_num, hI6⟩
        | (simp [intOf]; omega)
    · obtain rfl : t = brs.length := by omega
      have hnet := HI.out.net
      have hbel := HI.out.bel
      have htab := HI.out.tab
      obtain ⟨aW1, aW2, _⟩ := all_lt h16 HW.out
      have AW2 := Lib.hid aW2
      have HBITS := Lib.hid (bits_all h16 HW.out)
      have NET := Lib.hid (show NE wr (.slice xp g.length xc) g.length (cutAll (ofG g) (brs.take brs.length)) from ⟨h16, Sl.of_owns hnet (by omega)⟩)
      have HBel := Lib.hid hbel
      clear hI hnet aW2 hbel
      go_wp2_with (first
        | (go_at_call 82; refine (results_any _ (mskL ps) (fun s hs => by have := mskL_lt h16 HLT.out s hs; omega) (by rw [mskL_length]; omega) _ HSL.out HT6.out).mono ?_; rintro e w7 ⟨rv, rfl, hd7, hb7⟩)
        | (go_at_call 83; refine (partsOf_any _ _ g.length _ W rfl aW1 AW2.out _ NET.out htab).mono ?_; rintro e w6 ⟨ov, ps, rfl, hP, ho6, hpl, hlt6, hT6, hb6⟩; have HP := Lib.hid hP; have HLT := Lib.hid hlt6; have HT6 := Lib.hid hT6; have HSL : Hid (Sl w6 69 ov (mskL ps).length ((mskL ps).map u32v)) := Lib.hid (by rw [mskL_length]; exact Sl.of_owns ho6 (by omega)); clear hP ho6 hlt6 hT6)
        | (go_at_call 60; refine (all_any _ _ _ (by omega) _).mono ?_; rintro e wA ⟨he, rfl⟩; rw [← HW.out] at he; subst he))
      go_ret
      have hP := HP.out
      rw [HBITS.out, List.take_length, ← HBR.out] at hP
      rw [rowsOf_mskL h16 HLT.out] at hd7
      refine ⟨_, _, rfl, .inl ⟨HOK.out, ps, hP, rfl⟩, hd7.base (Nat.le_trans HBel.out.size hb6.size), by rw [List.length_map]; exact hpl, fun j => ?_, (HBel.out.trans (hb6.mono HBel.out.size)).trans (hb7.mono (Nat.le_trans HBel.out.size hb6.size))⟩
      by_cases hj : j < ps.length
      · have e : row (ps.map natInts) j = natInts ps[j] := by simp [row, hj]
        rw [e, natInts_length]
        have hl := HLT.out _ (List.getElem_mem hj)
        have hs : SetIn (g.length : Int) (natInts ps[j]) := ⟨fun x hx => by
          obtain ⟨i, hi, rfl⟩ := mem_natInts.1 hx
          have := hl.2 i hi
          omega, natInts_rising hl.1⟩
        have := setIn_length (by omega) hs
        rw [natInts_length] at this
        omega
      · simp [row, show ps.length ≤ j by omega]

end Go.Proofs.YtjdlmjmhlbpooaaDoor
