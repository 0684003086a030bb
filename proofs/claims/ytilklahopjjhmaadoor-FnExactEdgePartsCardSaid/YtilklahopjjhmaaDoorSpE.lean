/- Walk: the reference's EdgeParts. -/
import Derived.Test.YtilklahopjjhmaaDoorBrA
import Derived.Deep.RegionLaw
namespace Go.Proofs.YtilklahopjjhmaaDoor
open Go.RowKit

theorem PrsO.setBox {w : World} {base b : Nat} {ov x : Value} {l : List (Nat × Nat)} (h : PrsO w base ov l) (hb : Box w b 30 x) (u : Value) : PrsO (w.setCell ⟨b, 0, none⟩ u) base ov l := by
  obtain ⟨vals, h1, h2, h3⟩ := h
  exact ⟨vals, h1, ownsRow_setBox h2 hb (by decide) _, fun j hj => (h3 j hj).setBox hb (by decide) _⟩

/-- What the loop over the bridges carries. -/
structure SpI (w wr : World) (gS ev : Value) (B n : Nat) (brs : List (Nat × Nat)) (F : Nat → Nat → Bool) : Prop where
  box : Box wr w.heap.size 30 gS
  gr : Rws wr 27 2 gS (matG n F)
  edg : PrsO wr B ev brs
  bel : Below w.heap.size w wr
theorem SpI.turn {w wr w6 : World} {gS ev : Value} {B n : Nat} {brs : List (Nat × Nat)} {F F' : Nat → Nat → Bool} (h : SpI w wr gS ev B n brs F) (hn : n ≤ 16) (hb : Below wr.heap.size wr w6) {u : Value} {base : Nat} (hs : SG w6 base (.agg #[u]) (matG n F')) : SpI w (w6.setCell ⟨w.heap.size, 0, none⟩ u) u ev B n brs F' := by
  have hbx := h.box.keep hb
  obtain ⟨_, e, hr⟩ := hs.gr (by rw [matG_length]; omega)
  cases e
  exact ⟨hbx.set _, hr.setBox hbx (by decide) (by decide) _, (h.edg.below hb).setBox hbx _, (h.bel.trans (hb.mono h.bel.size)).setCell (p := ⟨_, 0, none⟩) (Nat.le_refl _) _⟩

set_option maxRecDepth 100000 in
set_option maxHeartbeats 4000000 in
theorem specEdgeParts_any (v : Value) (g : List (List Int)) (w : World) (hg : Gr w v g) :
    Calls Tryd.prog 17 #[v] w fun e w' => ∃ (u : Value) (gg : List (List Int)), e = .returned u ∧ EpS g gg ∧ SG w' w.heap.size (.agg #[u]) gg ∧ gg.length ≤ 32 ∧ (∀ j, (row gg j).length ≤ 16) ∧ Below w.heap.size w w' := by
  have hg0 := hg
  obtain ⟨u, rfl, hr⟩ := hg
  obtain ⟨p, c, rfl, _⟩ := hr.shape
  have hbA := Lib.hid (below_alloc w (.cells #[.slice p g.length c] 30))
  have HG := Lib.hid (hg0.below hbA.out)
  have HR := Lib.hid (hr.below hbA.out)
  have BX := Lib.hid (Box.new w (.slice p g.length c) 30)
  clear hr hg0
  by_cases hok : GOk g
  case neg =>
    have hd := dec_false hok
    have Hok := Lib.hid hok
    have cb := BX.out.cell
    clear hok
    go_enter Tryd.func17, Tryd.ntmps17
    go_wp2_with (go_at_call 23; refine (specGraphOk_any _ g _ HG.out).mono ?_; rintro e w2 ⟨he, hb2⟩; rw [hd] at he; subst he)
    go_ret
    have s0 := hbA.out.size
    have s2 := hb2.size
    exact ⟨_, [], rfl, .inr ⟨Hok.out, rfl⟩, ⟨_, [], rfl, rfl, ownsRow_base (ownsRow_empty w2 _ _) (by omega), fun j hj => by simp at hj⟩, by simp, fun j => by simp [row], (hbA.out.trans (hb2.mono hbA.out.size)).alloc (by omega) _⟩
  have hd := dec_true hok
  have h16 := hok.le
  have HOK := Lib.hid hok
  have HLE : Hid ((brdL g.length (ofG g) (edN g.length (ofG g) g.length)).length ≤ 256) := Lib.hid (by
    have := edN_length g.length (ofG g) g.length
    have := brdL_length g.length (ofG g) (edN g.length (ofG g) g.length)
    have : g.length * g.length ≤ 16 * 16 := Nat.mul_le_mul h16 h16
    omega)
  have HMB : Hid (∀ e ∈ brdL g.length (ofG g) (edN g.length (ofG g) g.length), e.1 < g.length ∧ e.2 < g.length ∧ e.1 < e.2) := Lib.hid fun e he => by
    have := mem_edN (Nat.le_refl _) (mem_brdL he)
    exact ⟨this.1, this.2.1, this.2.2.1⟩
  have cb := BX.out.cell
  clear hok
  go_enter Tryd.func17, Tryd.ntmps17
  go_wp2_with (first
    | (go_at_call 23; refine (specGraphOk_any _ g _ HG.out).mono ?_; rintro e w2 ⟨he, hb2⟩; rw [hd] at he; subst he; have hbx := (BX.out.keep hb2).cell)
    | (go_at_call 33; refine (l19Bridges_any _ g HOK.out _ (HG.out.below hb2)).mono ?_; rintro e w4 ⟨ev, rfl, hpe, hb4⟩; have HPE := Lib.hid hpe; obtain ⟨ep, ec, rfl⟩ := hpe.shape; clear hpe))
  generalize hbr : brdL g.length (ofG g) (edN g.length (ofG g) g.length) = brs at HLE HMB HPE
  have HBR := Lib.hid hbr
  have s0 := hbA.out.size
  have s2 := hb2.size
  have s4 := hb4.size
  have START : Hid (SpI w w4 (.slice p g.length c) (.slice ep brs.length ec) w2.heap.size g.length brs (cutAll (ofG g) (brs.take 0))) := Lib.hid
    { box := (BX.out.keep hb2).keep hb4
      gr := by
        rw [List.take_zero]
        show Rws _ _ _ _ (matG g.length (ofG g))
        rw [matG_ofG HOK.out]
        exact (HR.out.below hb2).below hb4
      edg := HPE.out
      bel := (hbA.out.trans (hb2.mono s0)).trans (hb4.mono (by omega)) }
  clear hb2 hb4 hbx hbr cb
  go_loopw [4] (fun i wr => ∃ (t : Nat) (gp : Option Addr) (gc : Nat), t ≤ brs.length ∧ i = .int .i64 t ∧ SpI w wr (.slice gp g.length gc) (.slice ep brs.length ec) w2.heap.size g.length brs (cutAll (ofG g) (brs.take t))) (fun i _ => brs.length - (intOf i).toNat)
  case atStart => exact ⟨0, p, c, Nat.zero_le _, rfl, START.out⟩
  case round =>
    clear START
    obtain ⟨t, gp, gc, ht, rfl, hI⟩ := hrel
    have HI := Lib.hid hI
    have hle256 := HLE.out
    have hbx := hI.box.cell
    by_cases hlt : t < brs.length
    · obtain ⟨eb, eo, rp, rc, rfl, hce, hne⟩ := hI.edg.get hlt
      have hmem := HMB.out _ (List.getElem_mem hlt)
      have htk := Lib.hid (take_snoc brs t hlt)
      obtain ⟨⟨a, b⟩, hab⟩ : ∃ e : Nat × Nat, e = brs[t] := ⟨_, rfl⟩
      rw [← hab] at hmem hne htk
      obtain ⟨ha, hb, hlt2⟩ := hmem
      simp only at ha hb hlt2 hne
      obtain ⟨rb, ro, rfl, hc0⟩ := hne.get (k := 0) (by simp)
      obtain ⟨_, _, e1, hc1⟩ := hne.get (k := 1) (by simp)
      cases e1
      simp only [List.getElem_cons_zero, List.getElem_cons_succ, Nat.add_zero] at hc0 hc1
      have hne2 : a ≠ b := by omega
      obtain ⟨zc, zf, zl, zB⟩ := hI.box
      have HGR : Hid (Gr wr (.agg #[.slice gp g.length gc]) (matG g.length (cutAll (ofG g) (brs.take t)))) := Lib.hid ⟨_, rfl, hI.gr⟩
      have HRL : Hid (∀ j, (row (matG g.length (cutAll (ofG g) (brs.take t))) j).length ≤ 16) := Lib.hid fun j => Nat.le_trans (matG_row_le j) h16
      have HGA : Hid (∀ gA : List (List Int), gA.length = (matG g.length (cutAll (ofG g) (brs.take t))).length → (∀ j, j < (matG g.length (cutAll (ofG g) (brs.take t))).length → row gA j = cutRow (row (matG g.length (cutAll (ofG g) (brs.take t))) j) j a b) → gA = matG g.length (cutAll (ofG g) (brs.take (t + 1)))) := Lib.hid fun gA h1 h2 => by
        rw [matG_length] at h1 h2
        rw [htk.out, cutAll_snoc]
        refine graph_ext (by rw [h1, matG_length]) fun j hj => ?_
        rw [h1] at hj
        rw [h2 j hj]
        exact cutRow_mat hj hne2
      have hml : (matG g.length (cutAll (ofG g) (brs.take t))).length ≤ 16 := by rw [matG_length]; exact h16
      clear hI hne hab
      go_upto_region 7 with fail
      go_region_law (first
        | (go_simp; go_at_call 34; refine (l19Cut_any _ _ a b _ _ rfl rfl hne2 hml HRL.out _ (HGR.out.below (below_dN (Below.refl _ _) 1))).mono ?_; rintro e w6 ⟨rA, gA, rfl, hsA, hlA, hrA, hbA⟩; have hgA := HGA.out gA hlA hrA; subst hgA; obtain ⟨ap, ac, rfl⟩ := hsA.shape; have hb6' : Below wr.heap.size wr w6 := (below_dN (Below.refl _ _) 1).trans hbA; have HSA := Lib.hid hsA; obtain ⟨yc, yf, yl, yB⟩ := Box.keep ⟨zc, zf, zl, zB⟩ hb6'; clear hsA hlA hrA hbA))
      all_goals go_wp2
      all_goals go_roundw
      all_goals first
        | (simp [intOf]; omega)
        | exact ⟨t + 1, _, _, by omega, by go_num, by have q := HI.out.turn h16 hb6' HSA.out; rw [matG_length] at *; exact q⟩
    · obtain rfl : t = brs.length := by omega
      have hbel := hI.bel
      have hsz := hbel.size
      have HGR : Hid (Gr wr (.agg #[.slice gp g.length gc]) (matG g.length (cutAll (ofG g) (brs.take brs.length)))) := Lib.hid ⟨_, rfl, hI.gr⟩
      have hml : (matG g.length (cutAll (ofG g) (brs.take brs.length))).length = g.length := matG_length _ _
      have HML := Lib.hid hml
      have Hbel := Lib.hid hbel
      clear hI hml hbel
      go_upto_region 8 with fail
      go_region_held3 (fun w' => w'.cell? ⟨w.heap.size, 0, none⟩ = some (.slice gp g.length gc))
        (first | go_keep | exact hbx | exact BWB.at' hbx | exact BWA.at' hbx)
        (first
          | (go_at_call 25; refine (l16All_any _ (matG g.length (cutAll (ofG g) (brs.take brs.length))) (by rw [HML.out]; omega) _ (HGR.out.below (below_dN (Below.refl _ _) 1))).mono ?_; rintro e w6 ⟨lv, rfl, hoB, hbB⟩; have hLB : Nums w6 2 .i64 lv (natInts (List.range (matG g.length (cutAll (ofG g) (brs.take brs.length))).length)) := Nums.of_owns hoB (by rw [natInts_length, List.length_range]) (by rw [HML.out]; omega); rw [HML.out] at hLB; have HLB := Lib.hid hLB; have BWA : Below wr.heap.size wr w6 := (below_dN (Below.refl _ _) 1).trans hbB; have HGB := Lib.hid (HGR.out.below BWA); clear hoB hbB hLB)
          | (go_at_call 35; refine (l16Parts_any _ _ g.length (cutAll (ofG g) (brs.take brs.length)) (cutAll_sym (ofG_sym HOK.out) _) (List.range g.length) (by rw [List.length_range]; exact h16) List.pairwise_lt_range (fun y hy => List.mem_range.1 hy) _ HGB.out HLB.out).mono ?_; rintro e w7 ⟨rv, ps, rfl, hP, hsP, hpl, hall, hb7⟩; have HP := Lib.hid hP; have HSP := Lib.hid hsP; have HALL := Lib.hid hall; have BWB : Below wr.heap.size wr w7 := BWA.trans (hb7.mono BWA.size); have BSZ := BWA.size; clear hP hsP hall hb7))
      all_goals go_wp2
      all_goals go_ret
      all_goals
        have hP := HP.out
        rw [List.take_length, ← HBR.out] at hP
        refine ⟨_, _, rfl, .inl ⟨HOK.out, ps, hP, rfl⟩, sg_base HSP.out (by omega), by rw [List.length_map]; omega, fun j => ?_, Hbel.out.trans (BWB.mono hsz)⟩
        by_cases hj : j < ps.length
        · have e : row (ps.map natInts) j = natInts ps[j] := by simp [row, hj]
          rw [e, natInts_length]
          have hl := HALL.out _ (List.getElem_mem hj)
          have := rising_sub_len List.pairwise_lt_range hl.1 hl.2
          rw [List.length_range] at this
          omega
        · simp [row, show ps.length ≤ j by omega]

end Go.Proofs.YtilklahopjjhmaaDoor
