/- Walk: the reference's ComposedModel. -/
import Derived.Test.YtihlcmenfopaiaaDoorMmQ30
namespace Go.Proofs.YtihlcmenfopaiaaDoor
open Go.RowKit

theorem sg_nilM (w : World) (base : Nat) : SG w base (.agg #[.slice none 0 0]) [] := ⟨_, [], rfl, rfl, World.ownsRow_nil _ _ _ _, fun j hj => by simp at hj⟩

set_option maxRecDepth 100000 in
set_option maxHeartbeats 4000000 in
theorem specComposedModel_any (v pv mv qv wv : Value) (g p M q W : List (List Int)) (hgl : g.length ≤ 1000000000) (hpl : p.length ≤ 1000000000) (w : World) (hg : Gr w v g) (hp : Gr w pv p) (hm : Gr w mv M) (hq : Gr w qv q) (hw : Gr w wv W) :
    Calls Tryd.prog 25 #[v, pv, mv, qv, wv] w fun e w' => ∃ (u : Value) (R : List (List Int)) (ok : Bool), e = .returned (.tuple #[u, .bool ok]) ∧ CmS g p M q W R ok ∧ SG w' w.heap.size u R ∧ R.length ≤ 16 ∧ (∀ j, (row R j).length ≤ 16) ∧ Below w.heap.size w w' := by
  have hg0 := Lib.hid hg
  have hp0 := Lib.hid hp
  have hm0 := Lib.hid hm
  have hq0 := Lib.hid hq
  have hw0 := Lib.hid hw
  obtain ⟨_, rfl, hr⟩ := hg
  obtain ⟨ga, gc, rfl, _⟩ := hr.shape
  obtain ⟨_, rfl, hr⟩ := hp
  obtain ⟨pa, pc, rfl, _⟩ := hr.shape
  obtain ⟨_, rfl, hmr⟩ := hm
  obtain ⟨ma, mc, rfl, _, hmc, hml⟩ := hmr.shape
  obtain ⟨_, rfl, hr⟩ := hq
  obtain ⟨qa, qc, rfl, _⟩ := hr.shape
  obtain ⟨_, rfl, hwr⟩ := hw
  obtain ⟨wa, wc, rfl, _, hwc, hwl⟩ := hwr.shape
  obtain ⟨W0, hW0, hbA, SZ0, B0, B1, B2, B3, B4, B5⟩ := six_boxesM w (.slice ga g.length gc) (.slice pa p.length pc) (.slice ma M.length mc) (.slice qa q.length qc) (.slice wa W.length wc) (.slice none 0 0) 29 29 41 29 41 41
  have HBA := Lib.hid hbA
  have HG := Lib.hid (hg0.out.below hbA)
  have HP := Lib.hid (hp0.out.below hbA)
  have HM := Lib.hid (hm0.out.below hbA)
  have HQ := Lib.hid (hq0.out.below hbA)
  have HW := Lib.hid (hw0.out.below hbA)
  have HMR := Lib.hid (hmr.below hbA)
  have HWR := Lib.hid (hwr.below hbA)
  have HX0 := Lib.hid B0
  have HX1 := Lib.hid B1
  have HX2 := Lib.hid B2
  have HX3 := Lib.hid B3
  have HX4 := Lib.hid B4
  have HX5 := Lib.hid B5
  have HSZ := Lib.hid SZ0
  clear hr hmr hwr hg0 hp0 hm0 hq0 hw0 hbA SZ0 B0 B1 B2 B3 B4 B5
  by_cases hok : MdOk g p M
  case neg =>
    have hd := Lib.hid (dec_false hok)
    have HC := Lib.hid (show CmS g p M q W [] false from .inr ⟨fun h => hok h.1, rfl, rfl⟩)
    clear hok
    go_enter Tryd.func25, Tryd.ntmps25
    go_upto_region 1 with fail
    rw [← hW0]
    clear hW0
    have c0 := HX0.out.cell
    have c1 := HX1.out.cell
    have c2 := HX2.out.cell
    go_wp2_with (go_at_call 61; refine (specModelOk_any _ _ _ g p M hgl _ HG.out HP.out HM.out).mono ?_; rintro e w2 ⟨he, hb2⟩; rw [hd.out] at he; subst he; obtain ⟨nc, nf, nl, nB⟩ := HX5.out.keep hb2)
    refine bodyPost_ret (v := .tuple #[.agg #[.slice none 0 0], .bool false]) (by simp [results, Tryd.results25, go_sem, nc]) rfl ⟨_, [], false, rfl, HC.out, sg_nilM _ _, by simp, fun j => by simp [row], ?_⟩
    exact (HBA.out.trans (hb2.mono HBA.out.size)).setCell (by show w.heap.size ≤ w.heap.size + 5; omega) _
  have hd := Lib.hid (dec_true hok)
  have HOK := Lib.hid hok
  clear hok
  by_cases hok2 : MdOk p q W
  case neg =>
    have hd2 := Lib.hid (dec_false hok2)
    have HC := Lib.hid (show CmS g p M q W [] false from .inr ⟨fun h => hok2 h.2, rfl, rfl⟩)
    clear hok2
    go_enter Tryd.func25, Tryd.ntmps25
    go_upto_region 1 with fail
    rw [← hW0]
    clear hW0
    have c0 := HX0.out.cell
    have c1 := HX1.out.cell
    have c2 := HX2.out.cell
    go_wp2_with (first
      | (go_at_call 61; refine (specModelOk_any _ _ _ p q W hpl _ (HP.out.below hb2) (HQ.out.below hb2) (HW.out.below hb2)).mono ?_; rintro e w3 ⟨he, hb3⟩; rw [hd2.out] at he; subst he; obtain ⟨nc, nf, nl, nB⟩ := (HX5.out.keep hb2).keep hb3)
      | (go_at_call 61; refine (specModelOk_any _ _ _ g p M hgl _ HG.out HP.out HM.out).mono ?_; rintro e w2 ⟨he, hb2⟩; rw [hd.out] at he; subst he; have k1 := (HX1.out.keep hb2).cell; have k3 := (HX3.out.keep hb2).cell; have k4 := (HX4.out.keep hb2).cell))
    refine bodyPost_ret (v := .tuple #[.agg #[.slice none 0 0], .bool false]) (by simp [results, Tryd.results25, go_sem, nc]) rfl ⟨_, [], false, rfl, HC.out, sg_nilM _ _, by simp, fun j => by simp [row], ?_⟩
    exact ((HBA.out.trans (hb2.mono HBA.out.size)).trans (hb3.mono (Nat.le_trans HBA.out.size hb2.size))).setCell (by show w.heap.size ≤ w.heap.size + 5; omega) _
  have hd2 := Lib.hid (dec_true hok2)
  have HOK2 := Lib.hid hok2
  clear hok2
  have HG16 := Lib.hid (HOK.out.1.1.1.1.1.le)
  have HMIN : Hid (∀ a, a < M.length → ∀ y ∈ row M a, 0 ≤ y ∧ y < g.length) := Lib.hid (fun a ha y hy => (mdOk_sets HOK.out ha).1 y hy)
  have HWIN : Hid (∀ a, a < W.length → ∀ y ∈ row W a, 0 ≤ y ∧ y < M.length) := Lib.hid (fun a ha y hy => by rw [HOK.out.1.2]; exact (mdOk_sets HOK2.out ha).1 y hy)
  have HML16 := Lib.hid (HOK.out.1.1.1.1.2)
  have HWL16 := Lib.hid (HOK2.out.1.1.1.1.2)
  have HP16 := Lib.hid (HOK2.out.1.1.1.1.1.le)
  go_enter Tryd.func25, Tryd.ntmps25
  go_upto_region 1 with fail
  rw [← hW0]
  clear hW0
  have c0 := HX0.out.cell
  have c1 := HX1.out.cell
  have c2 := HX2.out.cell
  go_upto_region 3 with (first
    | (go_at_call 61; refine (specModelOk_any _ _ _ p q W hpl _ (HP.out.below hb2) (HQ.out.below hb2) (HW.out.below hb2)).mono ?_; rintro e w3 ⟨he, hb3⟩; rw [hd2.out] at he; subst he)
    | (go_at_call 61; refine (specModelOk_any _ _ _ g p M hgl _ HG.out HP.out HM.out).mono ?_; rintro e w2 ⟨he, hb2⟩; rw [hd.out] at he; subst he; have k1 := (HX1.out.keep hb2).cell; have k3 := (HX3.out.keep hb2).cell; have k4 := (HX4.out.keep hb2).cell))
  have HB3 : Hid (Below W0.heap.size W0 w3) := Lib.hid (hb2.trans (hb3.mono hb2.size))
  have HST := Lib.hid (CmI.start HB3.out)
  clear hb2 hb3 c0 c1 c2 k1 k3 k4
  go_wp2_with fail
  go_loopw [13] (fun iv wr => ∃ (i : Nat) (ov : Value) (R : List (List Int)), i ≤ W.length ∧ iv = .int .i64 i ∧ Hid (CmpTo g.length M W R i) ∧ CmI W0 wr w3.heap.size ov R) (fun iv _ => W.length - (intOf iv).toNat)
  case atStart => exact ⟨0, _, [], Nat.zero_le _, rfl, Lib.hid ⟨rfl, fun i hi => absurd hi (Nat.not_lt_zero _)⟩, HST.out⟩
  case round =>
    clear HST
    obtain ⟨i, ov, R, hi, rfl, HR, hC⟩ := hrel
    have HC := Lib.hid hC
    have hwl16 := HWL16.out
    have hc4 := (HX4.out.keep hC.bel).cell
    by_cases hlt : i < W.length
    · obtain ⟨wb, wo, rp, rc, rfl, hce, hne⟩ := HWR.out.get (k := i) hlt
      replace hce : W0.cell? ⟨wb, wo + i, none⟩ = some (.slice rp (row W i).length rc) := hce
      replace hne : Nums W0 2 .i64 (.slice rp (row W i).length rc) (row W i) := hne
      have HCE := Lib.hid hce
      have HNE := Lib.hid hne
      have HWi := Lib.hid (HWIN.out i hlt)
      have HRL : Hid ((row W i).length ≤ 16) := Lib.hid (by
        have := setIn_length (by omega) (mdOk_sets HOK2.out hlt)
        have := HP16.out
        omega)
      have HC1 := Lib.hid (hC.next (below_alloc wr (.cells #[] 2)))
      have HN1 : Hid (Nums (wr.alloc (.cells #[] 2)) 2 .i64 (.slice (some ⟨wr.heap.size, 0, none⟩) 0 0) []) := Lib.hid (Sl.nothing _ _ _ _ (by simp))
      clear hce hne hC
      go_wp2_with fail
      go_loopw [14, 15] (fun sv kv wr => ∃ (k : Nat) (S : List Int), k ≤ (row W i).length ∧ kv = .int .i64 k ∧ Nums wr 2 .i64 sv S ∧ Hid (UnI g.length M ((row W i).take k) [] S) ∧ CmI W0 wr w3.heap.size ov R) (fun _ kv _ => (row W i).length - (intOf kv).toNat)
      case atStart => exact ⟨0, [], Nat.zero_le _, rfl, HN1.out, Lib.hid (UnI.start _ _), HC1.out⟩
      case round =>
        clear HN1 HC1 HC hc4
        obtain ⟨k, S, hk, rfl, hns, HU, hC⟩ := hrel
        have HC := Lib.hid hC
        have HNS := Lib.hid hns
        have hc4 := (HX4.out.keep hC.bel).cell
        have hci := hC.bel.at' HCE.out
        have hrl := HRL.out
        clear hns
        by_cases hltk : k < (row W i).length
        · obtain ⟨nb, no, rfl, hcn⟩ := HNE.out.get (k := k) hltk
          have hin := HWi.out _ (List.getElem_mem hltk)
          obtain ⟨m, hm⟩ : ∃ m : Nat, (row W i)[k] = (m : Int) := ⟨(row W i)[k].toNat, by omega⟩
          rw [hm] at hcn hin
          have hmM : m < M.length := by omega
          have htk : Hid ((row W i).take (k + 1) = (row W i).take k ++ [(m : Int)]) := Lib.hid (by rw [take_snoc' _ k hltk, hm])
          replace hcn := hC.bel.at' hcn
          obtain ⟨mb, mo, sp, sc, rfl, hcm, hnm⟩ := HMR.out.get (k := m) hmM
          replace hcm : W0.cell? ⟨mb, mo + m, none⟩ = some (.slice sp (row M m).length sc) := hcm
          replace hnm : Nums W0 2 .i64 (.slice sp (row M m).length sc) (row M m) := hnm
          have HNM := Lib.hid hnm
          replace hcm := hC.bel.at' hcm
          have hc2 := (HX2.out.keep hC.bel).cell
          have HML : Hid ((row M m).length ≤ 16) := Lib.hid (by
            have := setIn_length (by omega) (mdOk_sets HOK.out hmM)
            have := HG16.out
            omega)
          have HMm := Lib.hid (HMIN.out m hmM)
          obtain ⟨wl, hwl'⟩ : ∃ wl, wl = (row W i).length := ⟨_, rfl⟩
          rw [← hwl'] at hci hltk hk hrl
          have HWLE := Lib.hid hwl'
          obtain ⟨sl, hsl'⟩ : ∃ sl, sl = (row M m).length := ⟨_, rfl⟩
          rw [← hsl'] at hcm
          have HSLE := Lib.hid hsl'
          clear hnm hC hm hwl' hsl'
          go_upto_region 11 with fail
          go_cut [16] (fun s16 wx => s16 = .slice sp sl sc ∧ Below wr.heap.size wr wx)
          case first =>
            go_region_held3 (fun w' => w'.cell? ⟨w.heap.size + 2, 0, none⟩ = some (.slice (some ⟨mb, mo, none⟩) M.length mc) ∧ w'.cell? ⟨w.heap.size + 4, 0, none⟩ = some (.slice (some ⟨wb, wo, none⟩) W.length wc) ∧ w'.cell? ⟨wb, wo + i, none⟩ = some (.slice (some ⟨nb, no, none⟩) wl rc) ∧ w'.cell? ⟨nb, no + k, none⟩ = some (.int .i64 (m : Int)) ∧ w'.cell? ⟨mb, mo + m, none⟩ = some (.slice sp sl sc))
              (first | exact ⟨hc2, hc4, hci, hcn, hcm⟩ | go_keep)
              (fail)
            all_goals go_wp2
            all_goals go_meet
            all_goals exact ⟨rfl, below_dN (Below.refl _ _) _⟩
          case rest =>
          obtain ⟨rfl, hbc⟩ := hcut
          have HCC := Lib.hid (HC.out.next hbc)
          have HNSC := Lib.hid (HNS.out.below hbc)
          clear hbc hcn hcm hc2 hc4 hci HC HNS
          go_wp2_with fail
          go_loopw [14, 17] (fun sv tv wr => ∃ (t : Nat) (S : List Int), t ≤ (row M m).length ∧ tv = .int .i64 t ∧ Nums wr 2 .i64 sv S ∧ Hid (UnI g.length M ((row W i).take k) ((row M m).take t) S) ∧ CmI W0 wr w3.heap.size ov R) (fun _ tv _ => (row M m).length - (intOf tv).toNat)
          case atStart => exact ⟨0, S, Nat.zero_le _, rfl, HNSC.out, HU, HCC.out⟩
          case round =>
            clear HCC HNSC HU
            obtain ⟨t, S, ht, rfl, hns, HU, hC⟩ := hrel
            have HC := Lib.hid hC
            have HNS := Lib.hid hns
            have hml16 := HML.out
            have hS16 := HU.out.len HG16.out
            clear hns
            by_cases hltt : t < (row M m).length
            · obtain ⟨yb, yo, rfl, hcy⟩ := (HNM.out.below hC.bel).get (k := t) hltt
              have hyin := HMm.out _ (List.getElem_mem hltt)
              obtain ⟨y, hy⟩ : ∃ y, y = (row M m)[t] := ⟨_, rfl⟩
              have HU2 : Hid (UnI g.length M ((row W i).take k) ((row M m).take (t + 1)) (intoL S y)) := Lib.hid (by
                rw [take_snoc' _ t hltt, ← hy]
                exact HU.out.put (by rw [hy]; exact hyin.1) (by rw [hy]; exact hyin.2))
              rw [← hy] at hcy
              rw [← HSLE.out] at hltt hml16
              clear hy hyin hC
              go_wp2_with (go_at_call 62; refine (l1Into_any _ S y (by omega) _ HNS.out).mono ?_; rintro e w4 ⟨u4, rfl, hn4, hb4⟩)
              go_roundw
              case rel => exact ⟨t + 1, intoL S y, by have := HSLE.out; omega, by go_num, hn4, HU2, HC.out.next hb4⟩
              case measure => have := HSLE.out; simp [intOf]; omega
            · obtain rfl : t = (row M m).length := by omega
              have HU2 : Hid (UnI g.length M ((row W i).take (k + 1)) [] S) := Lib.hid (by
                have h1 := HU.out
                rw [List.take_length] at h1
                rw [htk.out]
                exact UnI.next (j := (m : Int)) (by simpa using h1))
              rw [← HSLE.out] at hltt hml16 ⊢
              clear hC
              go_wp2_with fail
              go_roundw
              case rel => exact ⟨k + 1, S, by have := HWLE.out; omega, by go_num, HNS.out, HU2, HC.out⟩
              case measure => have := HWLE.out; simp [intOf]; omega
        · obtain rfl : k = (row W i).length := by omega
          have HU2 : Hid (UnI g.length M (row W i) [] S) := Lib.hid (by have h1 := HU.out; rwa [List.take_length] at h1)
          obtain ⟨vals, hvl, hvo, hvr⟩ := hC.vals
          have HVL := Lib.hid hvl
          have HVR := Lib.hid hvr
          obtain ⟨op, oc, rfl⟩ := hC.shape
          have hRl := HR.out.1
          have hRb : R.length < 1000000000 := by omega
          have hlo := hC.box.lt
          have hbc := hC.box.cell
          clear hvl hvr hRl hC
          obtain ⟨svp, svc, rfl, _⟩ := id HNS.out.shape
          go_wp2_with (at_builtin; refine wpList_app1s ty_rows64 rfl rfl rfl hvo rfl rfl hRb hlo ?_; intro b7 c8 w7 hown7 hg7 _; obtain ⟨hb7, hbx7⟩ := HC.out.grown hvo hg7; have c7 := hbx7.cell; have f7 := hbx7.free)
          go_roundw
          case rel => exact ⟨i + 1, _, R ++ [S], by omega, by go_num, Lib.hid (HR.out.snoc HU2.out), HC.out.put HVL.out hvo HVR.out hown7 hg7 HNS.out⟩
          case measure => simp [intOf]; omega
    · obtain rfl : i = W.length := by omega
      have hRl := HR.out.1
      obtain ⟨op, oc, rfl⟩ := hC.shape
      obtain ⟨nc, nf, nl, nB⟩ := HX5.out.keep hC.bel
      have hcb := hC.box.cell
      have HCS : Hid (CmS g p M q W R true) := Lib.hid (.inl ⟨HOK.out, HOK2.out, HR.out.all, rfl⟩)
      have HRR := Lib.hid (HR.out.row_le HG16.out)
      have hRl16 : R.length ≤ 16 := by omega
      have HRL16 := Lib.hid hRl16
      clear hC hRl hRl16
      go_wp2_with fail
      have h1 := HBA.out.size
      have h2 := HB3.out.size
      refine bodyPost_ret (v := .tuple #[.agg #[.slice op R.length oc], .bool true]) (by simp [results, Tryd.results25, go_sem, nc]) rfl ⟨_, R, true, rfl, HCS.out, (HC.out.sg.setM ⟨nc, nf, nl, nB⟩ _).baseM (by omega), HRL16.out, HRR.out, ?_⟩
      exact (HBA.out.trans (HC.out.bel.mono h1)).setCell (by show w.heap.size ≤ w.heap.size + 5; omega) _

end Go.Proofs.YtihlcmenfopaiaaDoor
