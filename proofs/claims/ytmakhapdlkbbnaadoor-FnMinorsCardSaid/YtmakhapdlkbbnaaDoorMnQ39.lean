/- Walk: the program's BranchEdges of a model (printed by wip/mkMnC.py). -/
import Derived.Test.YtmakhapdlkbbnaaDoorMnQ36
import Derived.Test.YtmakhapdlkbbnaaDoorMnQ38
namespace Go.Proofs.YtmakhapdlkbbnaaDoor
open Go.RowKit

theorem hasQ_any (s v : Nat) (hs : s < 4294967296) (hv : v < 32) (w : World) : Calls Tryd.prog 152 #[.int .u32 (s : Int), .int .i64 (v : Int)] w fun e w' => e = .returned (.bool (s.testBit v)) ∧ w = w' :=
  has_any _ _ s v rfl rfl hs hv w
/-- The pairs stay where only one block of rows has changed. -/
theorem PrsO.only {w w' : World} {base b : Nat} {ov : Value} {l : List (Nat × Nat)} {cur : Array Value} {fz : Nat × Nat} (h : PrsO w base ov l) (hb : w.heap[b]? = some (.cells cur 36 fz)) (hg : w.grownBy w' (some b)) (hne : b < base) : PrsO w' base ov l := by
  obtain ⟨vals, h1, h2, h3⟩ := h
  refine ⟨vals, h1, ownsRow_toM h2 fun k e => hg.block k (h2.lt k e).2 fun c => ?_, fun j hj => (h3 j hj).keep fun k cur2 fz2 hk => hg.block k (lt_of_block hk) fun c => ?_⟩
  · have := (h2.lt k e).1
    have c : k = b := by simpa using c
    omega
  · have c : k = b := by simpa using c
    subst c
    rw [hb] at hk
    simp only [Option.some.injEq, Obj.cells.injEq] at hk
    exact absurd hk.2.1 (by decide)
theorem PrsO.rws {w : World} {base : Nat} {ov : Value} {l : List (Nat × Nat)} (h : PrsO w base ov l) (hl : l.length ≤ 1000000) : Rws w 36 2 ov (prsL l) := by
  obtain ⟨vals, h1, h2, h3⟩ := h
  have e : (prsL l).length = l.length := by simp [prsL]
  exact ⟨vals, by rw [e]; exact h1, by rw [e]; exact Sl.of_owns h2 (by omega), fun j hj => h3 j (by rw [← e]; exact hj)⟩

set_option maxRecDepth 100000 in
set_option maxHeartbeats 8000000 in
theorem implBranchEdges_yes (v pv mv : Value) (g p M : List (List Int)) (hmd : MdOk g p M) (w : World) (hg : Gr w v g) (hp : Gr w pv p) (hm : Gr w mv M) (hT : Tab w) :
    Calls Tryd.prog 59 #[v, pv, mv] w fun e w' => ∃ (u : Value) (L : List (Nat × Nat)), e = .returned u ∧ L.length = (edN p.length (ofG p) p.length).length ∧ (∀ e ∈ L, e ∈ edN g.length (ofG g) g.length) ∧ (∃ b, PrsO w' b u L) ∧ Below w.heap.size w w' := by
  have hg0 := Lib.hid hg
  have hp0 := Lib.hid hp
  have hm0 := Lib.hid hm
  obtain ⟨_, rfl, hr⟩ := hg
  obtain ⟨ga, gc, rfl, _⟩ := hr.shape
  obtain ⟨_, rfl, hr2⟩ := hp
  obtain ⟨pa, pc, rfl, _⟩ := hr2.shape
  obtain ⟨_, rfl, hr3⟩ := hm
  obtain ⟨ma, mc, rfl, _⟩ := hr3.shape
  obtain ⟨W0, hW0, hbA, SZ0, B0, B1, B2⟩ := three_boxesM w (.slice ga g.length gc) (.slice pa p.length pc) (.slice ma M.length mc) 29 29 54
  have HBA := Lib.hid hbA
  have HT := Lib.hid (hT.keep hbA)
  have HG := Lib.hid (hg0.out.below hbA)
  have HP := Lib.hid (hp0.out.below hbA)
  have HM := Lib.hid (hm0.out.below hbA)
  have HMR := Lib.hid (hr3.below hbA)
  have HX0 := Lib.hid B0
  have HX1 := Lib.hid B1
  have HX2 := Lib.hid B2
  have HSZ := Lib.hid SZ0
  have hok := hmd.1.1.1.1.1
  have hokp := hmd.1.1.2
  have g16 := hok.le
  have p16 := hokp.le
  have HOK := Lib.hid hok
  have HOKP := Lib.hid hokp
  have HMD := Lib.hid hmd
  have HDM := Lib.hid (dec_true hmd)
  have HML := Lib.hid hmd.1.2
  have HRI : Hid (∀ j, j < M.length → ∀ x ∈ row M j, 0 ≤ x ∧ x < 16) := Lib.hid (fun j hj x hx => by have := (hmd.1.1.1.2 j hj).1.1 x hx; omega)
  have hmlp : M.length ≤ 16 := hmd.1.1.1.1.2
  obtain ⟨K, hK⟩ : ∃ K, K = M.map mask := ⟨_, rfl⟩
  have HKL : Hid (K.length = M.length) := Lib.hid (by rw [hK, List.length_map])
  have HKB : Hid (∀ a, a < M.length → K.getD a 0 < 65536 ∧ ∀ i : Nat, (K.getD a 0).testBit i = dec ((i : Int) ∈ row M a)) := Lib.hid (fun a ha => by
    have e : K.getD a 0 = mask (row M a) := by rw [hK]; simp [row, List.getD_eq_getElem?_getD, ha]
    rw [e]
    refine ⟨mask_lt16 _ fun x hx => (HRI.out a ha x hx).2, fun i => ?_⟩
    rw [Bool.eq_iff_iff, dec_iff, bit_mask fun x hx => (HRI.out a ha x hx).1])
  have HKE := Lib.hid hK
  obtain ⟨eg, heg⟩ : ∃ eg, eg = edN g.length (ofG g) g.length := ⟨_, rfl⟩
  obtain ⟨ep, hep⟩ : ∃ ep, ep = edN p.length (ofG p) p.length := ⟨_, rfl⟩
  have EDG : Hid (∀ (wz : World) (vz : Value), Gr wz vz g → Calls Tryd.prog 144 #[vz] wz fun e w' => ∃ u : Value, e = .returned u ∧ PrsO w' wz.heap.size u eg ∧ Below wz.heap.size wz w') := Lib.hid (fun wz vz hz => by rw [heg]; exact edgesC_any _ g HOK.out _ hz)
  have EDP : Hid (∀ (wz : World) (vz : Value), Gr wz vz p → Calls Tryd.prog 144 #[vz] wz fun e w' => ∃ u : Value, e = .returned u ∧ PrsO w' wz.heap.size u ep ∧ Below wz.heap.size wz w') := Lib.hid (fun wz vz hz => by rw [hep]; exact edgesC_any _ p HOKP.out _ hz)
  have HGL : Hid (∀ e ∈ eg, e.1 < 16 ∧ e.2 < 16) := Lib.hid (fun e he => by rw [heg] at he; obtain ⟨h1, h2, _⟩ := mem_edN (Nat.le_refl _) he; omega)
  have HPL : Hid (∀ e ∈ ep, e.1 < M.length ∧ e.2 < M.length) := Lib.hid (fun e he => by rw [hep] at he; obtain ⟨h1, h2, _⟩ := mem_edN (Nat.le_refl _) he; have := HML.out; omega)
  have hel256 : eg.length ≤ 256 := by
    rw [heg]
    have := edN_length g.length (ofG g) g.length
    have : g.length * g.length ≤ 16 * 16 := Nat.mul_le_mul g16 g16
    omega
  have hepl256 : ep.length ≤ 256 := by
    rw [hep]
    have := edN_length p.length (ofG p) p.length
    have : p.length * p.length ≤ 16 * 16 := Nat.mul_le_mul p16 p16
    omega
  have HJN : Hid (∀ e ∈ ep, ∃ f ∈ eg, BtwE (row M e.1) (row M e.2) f) := Lib.hid (fun e he => by
    rw [hep] at he
    have h1 := hmd.2.2 e he
    obtain ⟨k1, k2, _⟩ := mem_edN (Nat.le_refl _) he
    rw [heg]
    exact (join_btw hok (hmd.1.1.1.2 e.1 (by have := HML.out; omega)).1).1 h1)
  have HEG := Lib.hid heg
  have HEP := Lib.hid hep
  clear hT hr hr2 hr3 hg0 hp0 hm0 hbA SZ0 B0 B1 B2 hmd hok hokp hK heg hep
  go_enter Tryd.func59, Tryd.ntmps59
  go_upto_region 1 with fail
  rw [← hW0]
  clear hW0
  have c0 := HX0.out.cell
  have c1 := HX1.out.cell
  have c2 := HX2.out.cell
  go_upto_region 4 with (first
    | (go_at_call 55; refine (implModelOk_any _ _ _ g p M (by omega) _ HG.out HP.out HM.out HT.out).mono ?_; rintro e w2 ⟨he, hb2⟩; rw [HDM.out] at he; subst he; have k2 := hb2.at' c2; have HB2 := Lib.hid hb2)
    | (go_at_call 141; refine (bagMasks_any _ M HRI.out (by omega) _ (HMR.out.below HB2.out)).mono ?_; rintro e w4 ⟨u4, rfl, ho4, hb4⟩; rw [← HKE.out] at ho4; obtain ⟨bp, bc, rfl⟩ := owns_shapeE ho4; have HK4 : Hid (Sl w4 79 (.slice bp M.length bc) M.length (K.map u32v)) := Lib.hid (Sl.of_owns ho4 (by omega)); have HB4 : Hid (Below W0.heap.size W0 w4) := Lib.hid (HB2.out.trans (hb4.mono HB2.out.size)); clear ho4))
  obtain ⟨w5, hw5⟩ : ∃ W', W' = w4.alloc (.cells #[] 36) := ⟨_, rfl⟩
  rw [← hw5]
  have HN0 : Hid (PrsO w5 w4.heap.size (.slice (some ⟨w4.heap.size, 0, none⟩) 0 0) []) := Lib.hid (by rw [hw5]; exact PrsO.nil w4 _ (Nat.le_refl _))
  have HB45 : Hid (Below w4.heap.size w4 w5) := Lib.hid (by rw [hw5]; exact below_alloc _ _)
  have HBL5 : Hid (∃ cur fz, w5.heap[w4.heap.size]? = some (.cells cur 36 fz)) := Lib.hid (by rw [hw5]; exact ⟨_, _, heap_alloc_new w4 _⟩)
  have s45 : w4.heap.size + 1 = w5.heap.size := by rw [hw5, size_alloc]
  have HB5 : Hid (Below W0.heap.size W0 w5) := Lib.hid (HB4.out.trans (HB45.out.mono HB4.out.size))
  have k1 := HB5.out.at' c1
  have HP5 := Lib.hid (HP.out.below HB5.out)
  clear hw5 hb2 hb4 c0 c1 c2 k2
  go_wp2_with (go_at_call 144; refine (EDP.out _ _ HP5.out).mono ?_; rintro e w6 ⟨u6, rfl, hp6, hb6⟩; obtain ⟨ea, ec, rfl⟩ := hp6.shape; have HP6 := Lib.hid hp6; have HB56 := Lib.hid hb6; clear hp6 hb6)
  have HBL6 : Hid (∃ cur fz, w6.heap[w4.heap.size]? = some (.cells cur 36 fz)) := Lib.hid (by
    obtain ⟨cur, fz, h⟩ := HBL5.out
    exact ⟨cur, fz, (HB56.out.block _ (by omega)).trans h⟩)
  have HN6 := Lib.hid (HN0.out.below HB56.out)
  have s56 := HB56.out.size
  have HB46 : Hid (Below w4.heap.size w4 w6) := Lib.hid (HB45.out.trans (HB56.out.mono HB45.out.size))
  have KP : Hid (∀ w', w6.grownBy w' (some w4.heap.size) → PrsO w' w5.heap.size (.slice ea ep.length ec) ep) := Lib.hid (fun w' hgr => by
    obtain ⟨cur, fz, h⟩ := HBL6.out
    exact HP6.out.only h hgr (by omega))
  have KB : Hid (∀ w', w6.grownBy w' (some w4.heap.size) → Below w4.heap.size w4 w') := Lib.hid (fun w' hgr => below_grownQ HB46.out hgr (Nat.le_refl _) HB46.out.size)
  clear k1
  go_loopw [8, 29] (fun ov iv wr => ∃ (i : Nat) (L : List (Nat × Nat)), i ≤ ep.length ∧ iv = .int .i64 i ∧ L.length = i ∧ Hid (∀ e ∈ L, e ∈ eg) ∧ PrsO wr w4.heap.size ov L ∧ w6.grownBy wr (some w4.heap.size) ∧ (∀ k, ov.ownBlock = some k → k = w4.heap.size ∨ w6.heap.size ≤ k)) (fun _ iv _ => ep.length - (intOf iv).toNat)
  case atStart => exact ⟨0, [], Nat.zero_le _, rfl, rfl, Lib.hid (fun e he => by simp at he), HN6.out, grown_of_below (Below.refl _ _) _, fun k e => .inl (by simpa [Value.ownBlock] using e.symm)⟩
  case round =>
    clear HN6
    obtain ⟨i, L, hi, rfl, hLi, HL, hpo, hgr, hob⟩ := hrel
    have HPO := Lib.hid hpo
    have HGR := Lib.hid hgr
    have HOB := Lib.hid hob
    obtain ⟨op, oc, rfl⟩ := hpo.shape
    rw [hLi] at HPO HOB ⊢
    have HLI := Lib.hid hLi
    by_cases hlt : i < ep.length
    · obtain ⟨eb, eo, rp, rc, rfl, hce, hne⟩ := (KP.out _ hgr).get hlt
      obtain ⟨⟨a, b⟩, hab⟩ : ∃ e : Nat × Nat, e = ep[i] := ⟨_, rfl⟩
      have hm := hab ▸ List.getElem_mem hlt
      have hlm := HPL.out _ hm
      have HJ := Lib.hid (HJN.out _ hm)
      rw [← hab] at hne
      simp only at hne hlm
      obtain ⟨rb, ro, rfl, hc0⟩ := hne.get (k := 0) (by simp)
      obtain ⟨_, _, e1, hc1⟩ := hne.get (k := 1) (by simp)
      cases e1
      simp only [List.getElem_cons_zero, List.getElem_cons_succ, Nat.add_zero] at hc0 hc1
      have HKs := HK4.out.below (KB.out _ hgr)
      have hkl := HKL.out
      obtain ⟨xb, xo, exb, hxa⟩ := sl_cell HKs (j := a) (u := .int .u32 (K.getD a 0 : Nat)) (by simp [u32v, hkl, hlm.1, List.getD_eq_getElem?_getD])
      obtain ⟨_, _, exb2, hxb⟩ := sl_cell HKs (j := b) (u := .int .u32 (K.getD b 0 : Nat)) (by simp [u32v, hkl, hlm.2, List.getD_eq_getElem?_getD])
      subst exb
      cases exb2
      obtain ⟨sa, hsa⟩ : ∃ sa, sa = K.getD a 0 := ⟨_, rfl⟩
      obtain ⟨sb, hsb⟩ : ∃ sb, sb = K.getD b 0 := ⟨_, rfl⟩
      rw [← hsa] at hxa
      rw [← hsb] at hxb
      have hsa16 : sa < 65536 := by rw [hsa]; exact (HKB.out a hlm.1).1
      have hsb16 : sb < 65536 := by rw [hsb]; exact (HKB.out b hlm.2).1
      have HSA : Hid (∀ i : Nat, sa.testBit i = dec ((i : Int) ∈ row M a)) := Lib.hid (by rw [hsa]; exact (HKB.out a hlm.1).2)
      have HSB : Hid (∀ i : Nat, sb.testBit i = dec ((i : Int) ∈ row M b)) := Lib.hid (by rw [hsb]; exact (HKB.out b hlm.2).2)
      have ha1 : (a : Int) < (M.length : Int) := by omega
      have hb1 : (b : Int) < (M.length : Int) := by omega
      have hi256 : i < 1000 := by omega
      clear hne hab hm HKs hkl hsa hsb hlm hpo hob hLi
      go_upto_region 7 with fail
      go_cut [11, 12] (fun s11 s12 wx => s11 = .int .u32 (sa : Int) ∧ s12 = .int .u32 (sb : Int) ∧ Below wr.heap.size wr wx)
      case first =>
        go_region_held3 (fun w' => w'.cell? ⟨rb, ro, none⟩ = some (.int .i64 (a : Int)) ∧ w'.cell? ⟨rb, ro + 1, none⟩ = some (.int .i64 (b : Int)) ∧ w'.cell? ⟨xb, xo + a, none⟩ = some (.int .u32 (sa : Int)) ∧ w'.cell? ⟨xb, xo + b, none⟩ = some (.int .u32 (sb : Int)))
          (first | exact ⟨hc0, hc1, hxa, hxb⟩ | go_keep)
          (fail)
        all_goals go_wp2
        all_goals go_meet
        all_goals exact ⟨rfl, rfl, below_dN (Below.refl _ _) _⟩
      case rest =>
      obtain ⟨rfl, rfl, hbc⟩ := hcut
      replace HPO := Lib.hid (HPO.out.below hbc)
      replace HGR := Lib.hid (grown_trans HGR.out (grown_of_below hbc _))
      have HB7 : Hid (Below W0.heap.size W0 wc) := Lib.hid (HB4.out.trans ((KB.out _ HGR.out).mono HB4.out.size))
      have k0 := (HX0.out.keep HB7.out).cell
      have HG7 := Lib.hid (HG.out.below HB7.out)
      clear hbc hc0 hc1 hxa hxb hce hgr
      go_wp2_with (go_at_call 144; refine (EDG.out _ _ HG7.out).mono ?_; rintro e w8 ⟨u8, rfl, hp8, hb8⟩; obtain ⟨fa, fc, rfl⟩ := hp8.shape; have HP8 := Lib.hid hp8; have HPO8 := Lib.hid (HPO.out.below hb8); have HGR8 := Lib.hid (grown_trans HGR.out (grown_of_below hb8 _)); clear hp8 hb8)
      clear k0
      go_loopw [8, 48] (fun ov kv wx => ∃ k : Nat, k ≤ eg.length ∧ kv = .int .i64 k ∧ ov = .slice op i oc ∧ Hid (∀ f ∈ eg.take k, ¬ BtwE (row M a) (row M b) f) ∧ Hid (Below w8.heap.size w8 wx)) (fun _ kv _ => eg.length - (intOf kv).toNat)
      case atStart => exact ⟨0, Nat.zero_le _, rfl, rfl, Lib.hid (fun f hf => by simp at hf), Lib.hid (Below.refl _ _)⟩
      case round =>
        obtain ⟨k, hk, rfl, rfl, HNO, HBX⟩ := hrel
        by_cases hlk : k < eg.length
        · obtain ⟨qb, qo, rq, cq, hfp, hcf, hnf⟩ := (HP8.out.below HBX.out).get hlk
          subst hfp
          have htk := Lib.hid (take_snoc' eg k hlk)
          have HMEM := Lib.hid (List.getElem_mem hlk)
          have hgl := HGL.out _ (List.getElem_mem hlk)
          obtain ⟨⟨c, d⟩, hcd⟩ : ∃ e : Nat × Nat, e = eg[k] := ⟨_, rfl⟩
          rw [← hcd] at hnf htk HMEM hgl
          simp only at hnf hgl
          obtain ⟨nb, no, hnp, hd0⟩ := hnf.get (k := 0) (by simp)
          obtain ⟨_, _, e1, hd1⟩ := hnf.get (k := 1) (by simp)
          subst hnp
          cases e1
          simp only [List.getElem_cons_zero, List.getElem_cons_succ, Nat.add_zero] at hd0 hd1
          have HNF := Lib.hid hnf
          have hc32 : c < 32 := by omega
          have hd32 : d < 32 := by omega
          clear hnf hcd hgl
          go_upto_region 11 with fail
          go_cut [15, 16] (fun s15 s16 wx => s15 = .int .i64 (c : Int) ∧ s16 = .int .i64 (d : Int) ∧ Below wr.heap.size wr wx)
          case first =>
            go_region_held3 (fun w' => w'.cell? ⟨nb, no, none⟩ = some (.int .i64 (c : Int)) ∧ w'.cell? ⟨nb, no + 1, none⟩ = some (.int .i64 (d : Int)))
              (first | exact ⟨hd0, hd1⟩ | go_keep)
              (fail)
            all_goals go_wp2
            all_goals go_meet
            all_goals exact ⟨rfl, rfl, below_dN (Below.refl _ _) _⟩
          case rest =>
          obtain ⟨rfl, rfl, hbc⟩ := hcut
          have HBC := Lib.hid (HBX.out.trans (hbc.mono HBX.out.size))
          replace HNF := Lib.hid (HNF.out.below hbc)
          have h1 := HSA.out c
          have h2 := HSB.out d
          have h3 := HSA.out d
          have h4 := HSB.out c
          clear hbc hcf hd0 hd1
          by_cases m1 : (c : Int) ∈ row M a
          · by_cases m2 : (d : Int) ∈ row M b
            · have H1 := Lib.hid (h1.trans (dec_true m1))
              have H2 := Lib.hid (h2.trans (dec_true m2))
              have H3 := Lib.hid (show True from trivial)
              have H4 := Lib.hid (show True from trivial)
              have HF : Hid (PrsO wc w4.heap.size (.slice op i oc) L) := Lib.hid (HPO8.out.below HBC.out)
              obtain ⟨vals, hv1, hv2, hv3⟩ := HF.out
              have HV2 : Hid (wc.ownsRow w4.heap.size 36 1 (.slice op i oc) i vals) := Lib.hid (HLI.out ▸ hv2)
              have HV1 := Lib.hid hv1
              have HV2L := Lib.hid hv2
              have HV3 := Lib.hid hv3
              have hsz : w4.heap.size ≤ wc.heap.size := by have := HGR8.out.size; have := HBC.out.size; have := HB46.out.size; omega
              have HGC := Lib.hid (grown_trans HGR8.out (grown_of_below HBC.out _))
              clear h1 h2 h3 h4 hv1 hv2 hv3
              go_wp2_with (first | (go_at_call 152; refine (hasQ_any _ _ (by omega) (by omega) _).mono ?_; rintro e wx ⟨he, hw⟩; (first | rw [H1.out] at he | rw [H2.out] at he | rw [H3.out] at he | rw [H4.out] at he); subst he; subst hw) | (at_builtin; refine wpList_app1s ty_rows rfl rfl rfl HV2.out rfl rfl (by omega) hsz ?_; intro b7 c7 w7 hown7 hg7x hf7x; have hg7 : wc.grownBy w7 (Value.slice op i oc).ownBlock := hg7x; have hf7 : (Value.slice op i oc).ownBlock = some b7 ∨ wc.heap.size < b7 := hf7x; clear hg7x hf7x))
              go_roundw
              case rel =>
                refine ⟨i + 1, L ++ [(c, d)], by omega, by go_num, by rw [List.length_append, HLI.out]; rfl, Lib.hid (fun e he => ?_), ?_, grown_transB HGC.out hg7 (fun k e => (HOB.out k e).imp (fun h => by rw [h]) id), fun q e => ?_⟩
                · rcases List.mem_append.1 he with h | h
                  · exact HL.out e h
                  · obtain rfl : e = (c, d) := by simpa using h
                    exact HMEM.out
                · exact PrsO.snoc HV1.out HV2L.out HV3.out (by rw [HLI.out]; exact hown7) hg7 HNF.out
                · have e : b7 = q := by simpa [Value.ownBlock] using e
                  subst e
                  rcases hf7 with h | h
                  · exact HOB.out _ h
                  · exact .inr (by have := HGC.out.size; omega)
              case measure => simp [intOf]; omega
            · by_cases m3 : (d : Int) ∈ row M a
              · by_cases m4 : (c : Int) ∈ row M b
                · have H1 := Lib.hid (h1.trans (dec_true m1))
                  have H2 := Lib.hid (h2.trans (dec_false m2))
                  have H3 := Lib.hid (h3.trans (dec_true m3))
                  have H4 := Lib.hid (h4.trans (dec_true m4))
                  have HF : Hid (PrsO wc w4.heap.size (.slice op i oc) L) := Lib.hid (HPO8.out.below HBC.out)
                  obtain ⟨vals, hv1, hv2, hv3⟩ := HF.out
                  have HV2 : Hid (wc.ownsRow w4.heap.size 36 1 (.slice op i oc) i vals) := Lib.hid (HLI.out ▸ hv2)
                  have HV1 := Lib.hid hv1
                  have HV2L := Lib.hid hv2
                  have HV3 := Lib.hid hv3
                  have hsz : w4.heap.size ≤ wc.heap.size := by have := HGR8.out.size; have := HBC.out.size; have := HB46.out.size; omega
                  have HGC := Lib.hid (grown_trans HGR8.out (grown_of_below HBC.out _))
                  clear h1 h2 h3 h4 hv1 hv2 hv3
                  go_wp2_with (first | (go_at_call 152; refine (hasQ_any _ _ (by omega) (by omega) _).mono ?_; rintro e wx ⟨he, hw⟩; (first | rw [H1.out] at he | rw [H2.out] at he | rw [H3.out] at he | rw [H4.out] at he); subst he; subst hw) | (at_builtin; refine wpList_app1s ty_rows rfl rfl rfl HV2.out rfl rfl (by omega) hsz ?_; intro b7 c7 w7 hown7 hg7x hf7x; have hg7 : wc.grownBy w7 (Value.slice op i oc).ownBlock := hg7x; have hf7 : (Value.slice op i oc).ownBlock = some b7 ∨ wc.heap.size < b7 := hf7x; clear hg7x hf7x))
                  go_roundw
                  case rel =>
                    refine ⟨i + 1, L ++ [(c, d)], by omega, by go_num, by rw [List.length_append, HLI.out]; rfl, Lib.hid (fun e he => ?_), ?_, grown_transB HGC.out hg7 (fun k e => (HOB.out k e).imp (fun h => by rw [h]) id), fun q e => ?_⟩
                    · rcases List.mem_append.1 he with h | h
                      · exact HL.out e h
                      · obtain rfl : e = (c, d) := by simpa using h
                        exact HMEM.out
                    · exact PrsO.snoc HV1.out HV2L.out HV3.out (by rw [HLI.out]; exact hown7) hg7 HNF.out
                    · have e : b7 = q := by simpa [Value.ownBlock] using e
                      subst e
                      rcases hf7 with h | h
                      · exact HOB.out _ h
                      · exact .inr (by have := HGC.out.size; omega)
                  case measure => simp [intOf]; omega
                · have H1 := Lib.hid (h1.trans (dec_true m1))
                  have H2 := Lib.hid (h2.trans (dec_false m2))
                  have H3 := Lib.hid (h3.trans (dec_true m3))
                  have H4 := Lib.hid (h4.trans (dec_false m4))
                  have HN : Hid (∀ f ∈ eg.take (k + 1), ¬ BtwE (row M a) (row M b) f) := Lib.hid (fun f hf => by
                    rw [htk.out] at hf
                    rcases List.mem_append.1 hf with h | h
                    · exact HNO.out f h
                    · obtain rfl : f = (c, d) := by simpa using h
                      rintro (⟨k1, k2⟩ | ⟨k1, k2⟩)
                      · exact m2 k2
                      · exact m4 k2)
                  clear h1 h2 h3 h4
                  go_wp2_with (go_at_call 152; refine (hasQ_any _ _ (by omega) (by omega) _).mono ?_; rintro e wx ⟨he, hw⟩; (first | rw [H1.out] at he | rw [H2.out] at he | rw [H3.out] at he | rw [H4.out] at he); subst he; subst hw)
                  go_roundw
                  case rel => exact ⟨k + 1, by omega, by go_num, rfl, HN, HBC⟩
                  case measure => simp [intOf]; omega
              · have H1 := Lib.hid (h1.trans (dec_true m1))
                have H2 := Lib.hid (h2.trans (dec_false m2))
                have H3 := Lib.hid (h3.trans (dec_false m3))
                have H4 := Lib.hid (show True from trivial)
                have HN : Hid (∀ f ∈ eg.take (k + 1), ¬ BtwE (row M a) (row M b) f) := Lib.hid (fun f hf => by
                  rw [htk.out] at hf
                  rcases List.mem_append.1 hf with h | h
                  · exact HNO.out f h
                  · obtain rfl : f = (c, d) := by simpa using h
                    rintro (⟨k1, k2⟩ | ⟨k1, k2⟩)
                    · exact m2 k2
                    · exact m3 k1)
                clear h1 h2 h3 h4
                go_wp2_with (go_at_call 152; refine (hasQ_any _ _ (by omega) (by omega) _).mono ?_; rintro e wx ⟨he, hw⟩; (first | rw [H1.out] at he | rw [H2.out] at he | rw [H3.out] at he | rw [H4.out] at he); subst he; subst hw)
                go_roundw
                case rel => exact ⟨k + 1, by omega, by go_num, rfl, HN, HBC⟩
                case measure => simp [intOf]; omega
          · by_cases m3 : (d : Int) ∈ row M a
            · by_cases m4 : (c : Int) ∈ row M b
              · have H1 := Lib.hid (h1.trans (dec_false m1))
                have H2 := Lib.hid (show True from trivial)
                have H3 := Lib.hid (h3.trans (dec_true m3))
                have H4 := Lib.hid (h4.trans (dec_true m4))
                have HF : Hid (PrsO wc w4.heap.size (.slice op i oc) L) := Lib.hid (HPO8.out.below HBC.out)
                obtain ⟨vals, hv1, hv2, hv3⟩ := HF.out
                have HV2 : Hid (wc.ownsRow w4.heap.size 36 1 (.slice op i oc) i vals) := Lib.hid (HLI.out ▸ hv2)
                have HV1 := Lib.hid hv1
                have HV2L := Lib.hid hv2
                have HV3 := Lib.hid hv3
                have hsz : w4.heap.size ≤ wc.heap.size := by have := HGR8.out.size; have := HBC.out.size; have := HB46.out.size; omega
                have HGC := Lib.hid (grown_trans HGR8.out (grown_of_below HBC.out _))
                clear h1 h2 h3 h4 hv1 hv2 hv3
                go_wp2_with (first | (go_at_call 152; refine (hasQ_any _ _ (by omega) (by omega) _).mono ?_; rintro e wx ⟨he, hw⟩; (first | rw [H1.out] at he | rw [H2.out] at he | rw [H3.out] at he | rw [H4.out] at he); subst he; subst hw) | (at_builtin; refine wpList_app1s ty_rows rfl rfl rfl HV2.out rfl rfl (by omega) hsz ?_; intro b7 c7 w7 hown7 hg7x hf7x; have hg7 : wc.grownBy w7 (Value.slice op i oc).ownBlock := hg7x; have hf7 : (Value.slice op i oc).ownBlock = some b7 ∨ wc.heap.size < b7 := hf7x; clear hg7x hf7x))
                go_roundw
                case rel =>
                  refine ⟨i + 1, L ++ [(c, d)], by omega, by go_num, by rw [List.length_append, HLI.out]; rfl, Lib.hid (fun e he => ?_), ?_, grown_transB HGC.out hg7 (fun k e => (HOB.out k e).imp (fun h => by rw [h]) id), fun q e => ?_⟩
                  · rcases List.mem_append.1 he with h | h
                    · exact HL.out e h
                    · obtain rfl : e = (c, d) := by simpa using h
                      exact HMEM.out
                  · exact PrsO.snoc HV1.out HV2L.out HV3.out (by rw [HLI.out]; exact hown7) hg7 HNF.out
                  · have e : b7 = q := by simpa [Value.ownBlock] using e
                    subst e
                    rcases hf7 with h | h
                    · exact HOB.out _ h
                    · exact .inr (by have := HGC.out.size; omega)
                case measure => simp [intOf]; omega
              · have H1 := Lib.hid (h1.trans (dec_false m1))
                have H2 := Lib.hid (show True from trivial)
                have H3 := Lib.hid (h3.trans (dec_true m3))
                have H4 := Lib.hid (h4.trans (dec_false m4))
                have HN : Hid (∀ f ∈ eg.take (k + 1), ¬ BtwE (row M a) (row M b) f) := Lib.hid (fun f hf => by
                  rw [htk.out] at hf
                  rcases List.mem_append.1 hf with h | h
                  · exact HNO.out f h
                  · obtain rfl : f = (c, d) := by simpa using h
                    rintro (⟨k1, k2⟩ | ⟨k1, k2⟩)
                    · exact m1 k1
                    · exact m4 k2)
                clear h1 h2 h3 h4
                go_wp2_with (go_at_call 152; refine (hasQ_any _ _ (by omega) (by omega) _).mono ?_; rintro e wx ⟨he, hw⟩; (first | rw [H1.out] at he | rw [H2.out] at he | rw [H3.out] at he | rw [H4.out] at he); subst he; subst hw)
                go_roundw
                case rel => exact ⟨k + 1, by omega, by go_num, rfl, HN, HBC⟩
                case measure => simp [intOf]; omega
            · have H1 := Lib.hid (h1.trans (dec_false m1))
              have H2 := Lib.hid (show True from trivial)
              have H3 := Lib.hid (h3.trans (dec_false m3))
              have H4 := Lib.hid (show True from trivial)
              have HN : Hid (∀ f ∈ eg.take (k + 1), ¬ BtwE (row M a) (row M b) f) := Lib.hid (fun f hf => by
                rw [htk.out] at hf
                rcases List.mem_append.1 hf with h | h
                · exact HNO.out f h
                · obtain rfl : f = (c, d) := by simpa using h
                  rintro (⟨k1, k2⟩ | ⟨k1, k2⟩)
                  · exact m1 k1
                  · exact m3 k1)
              clear h1 h2 h3 h4
              go_wp2_with (go_at_call 152; refine (hasQ_any _ _ (by omega) (by omega) _).mono ?_; rintro e wx ⟨he, hw⟩; (first | rw [H1.out] at he | rw [H2.out] at he | rw [H3.out] at he | rw [H4.out] at he); subst he; subst hw)
              go_roundw
              case rel => exact ⟨k + 1, by omega, by go_num, rfl, HN, HBC⟩
              case measure => simp [intOf]; omega
        · obtain rfl : k = eg.length := by omega
          exact absurd HJ.out (fun ⟨f, hf, h⟩ => by
            have := HNO.out f (by rw [List.take_length]; exact hf)
            exact this h)
    · obtain rfl : i = ep.length := by omega
      have h1 := HBA.out.size
      have h2 := HB4.out.size
      have HBF := Lib.hid (KB.out _ hgr)
      have HLF := Lib.hid (hLi.trans (by rw [HEP.out]))
      have HLM : Hid (∀ e ∈ L, e ∈ edN g.length (ofG g) g.length) := Lib.hid (by have h := HL.out; rw [HEG.out] at h; exact h)
      clear hpo hgr hob hLi
      go_wp2_with fail
      go_ret
      exact ⟨_, L, rfl, HLF.out, HLM.out, ⟨_, HPO.out⟩, HBA.out.trans ((HB4.out.trans (HBF.out.mono h2)).mono h1)⟩

end Go.Proofs.YtmakhapdlkbbnaaDoor
