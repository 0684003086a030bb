/- Walk: the program's ComposedModel. -/
import Derived.Test.YtmakhapdlkbbnaaDoorMiQ40
import Derived.Test.YtmakhapdlkbbnaaDoorMiQ38
namespace Go.Proofs.YtmakhapdlkbbnaaDoor
open Go.RowKit

theorem DG.setMm {w : World} {base b : Nat} {v x : Value} {g : List (List Int)} (h : DG w base v g) (hb : Box w b 54 x) (u : Value) : DG (w.setCell ⟨b, 0, none⟩ u) base v g := by
  obtain ⟨u0, vals, h1, h2, h3, h4⟩ := h
  exact ⟨u0, vals, h1, h2, ownsRow_setBox h3 hb (by decide) _, ⟨fun j hj => ownsRow_setBox (h4.rows j hj) hb (by decide) _, h4.dis⟩⟩
theorem dg_nilM (w : World) (base : Nat) : DG w base (.agg #[.slice none 0 0]) [] := ⟨_, [], rfl, rfl, World.ownsRow_nil _ _ _ _, ⟨fun j hj => by simp at hj, fun i j hi => by simp at hi⟩⟩

/-- A union of sets, as a mask. -/
def UbI (M : List (List Int)) (L : List Int) (s : Nat) : Prop := s < 65536 ∧ ∀ y, s.testBit y = true ↔ ∃ k ∈ L, (y : Int) ∈ row M k.toNat
theorem UbI.start (M : List (List Int)) : UbI M [] 0 := ⟨by decide, fun y => by simp⟩
theorem UbI.put {M : List (List Int)} {L : List Int} {s m : Nat} {j : Int} (h : UbI M L s) (h0 : ∀ x ∈ row M j.toNat, 0 ≤ x ∧ x < 16) (hm : m = mask (row M j.toNat)) : UbI M (L ++ [j]) (s ||| m) := by
  have hm16 : m < 65536 := by rw [hm]; exact mask_lt16 _ fun x hx => (h0 x hx).2
  refine ⟨Nat.or_lt_two_pow (n := 16) h.1 hm16, fun i => ?_⟩
  rw [Nat.testBit_or, Bool.or_eq_true, h.2, hm, bit_mask fun x hx => (h0 x hx).1]
  constructor
  · rintro (⟨a, ha, h1⟩ | h1)
    · exact ⟨a, List.mem_append_left _ ha, h1⟩
    · exact ⟨j, by simp, h1⟩
  · rintro ⟨a, ha, h1⟩
    rcases List.mem_append.1 ha with e | e
    · exact .inl ⟨a, e, h1⟩
    · obtain rfl : a = j := by simpa using e
      exact .inr h1
def CmuTo (M W : List (List Int)) (a : List Nat) (k : Nat) : Prop := a.length = k ∧ ∀ j, j < k → UbI M (row W j) (a.getD j 0)
theorem CmuTo.snoc {M W : List (List Int)} {a : List Nat} {k s : Nat} (h : CmuTo M W a k) (hs : UbI M (row W k) s) : CmuTo M W (a ++ [s]) (k + 1) := by
  refine ⟨by simp [h.1], fun j hj => ?_⟩
  by_cases e : j < k
  · have e2 : (a ++ [s]).getD j 0 = a.getD j 0 := by simp [List.getD_eq_getElem?_getD, List.getElem?_append_left (show j < a.length by rw [h.1]; exact e)]
    rw [e2]; exact h.2 j e
  · obtain rfl : j = k := by omega
    have e2 : (a ++ [s]).getD j 0 = s := by rw [← h.1]; simp [List.getD_eq_getElem?_getD]
    rw [e2]; exact hs
theorem CmuTo.lt {M W : List (List Int)} {a : List Nat} {k : Nat} (h : CmuTo M W a k) : ∀ s ∈ a, s < 65536 := fun s hs => by
  obtain ⟨j, hj, rfl⟩ := List.getElem_of_mem hs
  have := (h.2 j (by rw [← h.1]; exact hj)).1
  simpa [List.getD_eq_getElem?_getD, hj] using this
theorem CmuTo.all {M W : List (List Int)} {a : List Nat} (h : CmuTo M W a W.length) (hM : ∀ j, ∀ x ∈ row M j, 0 ≤ x) : CmpS M W (rowsOf a) := by
  refine ⟨by rw [rowsOf_length]; exact h.1, fun i hi => ?_⟩
  have hia : i < a.length := by rw [h.1]; exact hi
  have hu := h.2 i hi
  have e : a.getD i 0 = a[i] := by simp [List.getD_eq_getElem?_getD, hia]
  rw [e] at hu
  rw [row_rowsOf hia]
  refine ⟨natInts_rising (bitsOf_rising _), fun x => ?_⟩
  rw [mem_natInts]
  constructor
  · rintro ⟨y, hy, rfl⟩
    exact (hu.2 y).1 ((mem_left hu.1).1 hy)
  · rintro ⟨k, hk, hx⟩
    have hx0 := hM _ x hx
    have ex : ((x.toNat : Nat) : Int) = x := by omega
    exact ⟨x.toNat, (mem_left hu.1).2 ((hu.2 _).2 ⟨k, hk, by rw [ex]; exact hx⟩), ex⟩
theorem row_rows_le {a : List Nat} (h : ∀ s ∈ a, s < 65536) (j : Nat) : (row (rowsOf a) j).length ≤ 16 := by
  by_cases e : j < a.length
  · rw [row_rowsOf e, natInts_length]
    exact nodup_le 16 _ ((bitsOf_rising _).imp fun h => Nat.ne_of_lt h) fun x hx => by
      have h1 := h _ (List.getElem_mem e)
      have h2 := (mem_left h1).1 hx
      exact Classical.byContradiction fun k => by
        have := Nat.testBit_lt_two_pow (Nat.lt_of_lt_of_le h1 (Nat.le_trans (by decide : 65536 ≤ 2 ^ 16) (Nat.pow_le_pow_right (n := 2) (Nat.succ_pos 1) (show 16 ≤ x by omega))))
        rw [h2] at this; cases this
  · have : row (rowsOf a) j = [] := by simp [row, rowsOf, List.getElem?_eq_none (show a.length ≤ j by omega)]
    rw [this]; exact Nat.zero_le _

set_option maxRecDepth 100000 in
set_option maxHeartbeats 4000000 in
theorem implComposedModel_any (v pv mv qv wv : Value) (g p M q W : List (List Int)) (hgl : g.length ≤ 1000000000) (hpl : p.length ≤ 1000000000) (w : World) (hg : Gr w v g) (hp : Gr w pv p) (hm : Gr w mv M) (hq : Gr w qv q) (hw : Gr w wv W) (hT : Tab w) :
    Calls Tryd.prog 54 #[v, pv, mv, qv, wv] w fun e w' => ∃ (u : Value) (R : List (List Int)) (ok : Bool), e = .returned (.tuple #[u, .bool ok]) ∧ CmS g p M q W R ok ∧ DG w' w.heap.size u R ∧ R.length ≤ 16 ∧ (∀ j, (row R j).length ≤ 16) ∧ Below w.heap.size w w' := by
  have hg0 := Lib.hid hg
  have hp0 := Lib.hid hp
  have hm0 := Lib.hid hm
  have hq0 := Lib.hid hq
  have hw0 := Lib.hid hw
  obtain ⟨_, rfl, hr⟩ := hg
  obtain ⟨ga, gc, rfl, _⟩ := hr.shape
  obtain ⟨_, rfl, hr⟩ := hp
  obtain ⟨pa, pc, rfl, _⟩ := hr.shape
  obtain ⟨_, rfl, hmr⟩ := hm
  obtain ⟨ma, mc, rfl, _, hmc, hml⟩ := hmr.shape
  obtain ⟨_, rfl, hr⟩ := hq
  obtain ⟨qa, qc, rfl, _⟩ := hr.shape
  obtain ⟨_, rfl, hwr⟩ := hw
  obtain ⟨wa, wc, rfl, _, hwc, hwl⟩ := hwr.shape
  obtain ⟨W0, hW0, hbA, SZ0, B0, B1, B2, B3, B4, B5⟩ := six_boxesM w (.slice ga g.length gc) (.slice pa p.length pc) (.slice ma M.length mc) (.slice qa q.length qc) (.slice wa W.length wc) (.slice none 0 0) 29 29 54 29 54 54
  have HBA := Lib.hid hbA
  have HT := Lib.hid (hT.keep hbA)
  have HG := Lib.hid (hg0.out.below hbA)
  have HP := Lib.hid (hp0.out.below hbA)
  have HM := Lib.hid (hm0.out.below hbA)
  have HQ := Lib.hid (hq0.out.below hbA)
  have HW := Lib.hid (hw0.out.below hbA)
  have HMR := Lib.hid (hmr.below hbA)
  have HWR := Lib.hid (hwr.below hbA)
  have HX0 := Lib.hid B0
  have HX1 := Lib.hid B1
  have HX2 := Lib.hid B2
  have HX3 := Lib.hid B3
  have HX4 := Lib.hid B4
  have HX5 := Lib.hid B5
  have HSZ := Lib.hid SZ0
  clear hT hr hmr hwr hg0 hp0 hm0 hq0 hw0 hbA SZ0 B0 B1 B2 B3 B4 B5
  by_cases hok : MdOk g p M
  case neg =>
    have hd := Lib.hid (dec_false hok)
    have HC := Lib.hid (show CmS g p M q W [] false from .inr ⟨fun h => hok h.1, rfl, rfl⟩)
    clear hok
    go_enter Tryd.func54, Tryd.ntmps54
    go_upto_region 1 with fail
    rw [← hW0]
    clear hW0
    have c0 := HX0.out.cell
    have c1 := HX1.out.cell
    have c2 := HX2.out.cell
    go_wp2_with (go_at_call 55; refine (implModelOk_any _ _ _ g p M hgl _ HG.out HP.out HM.out HT.out).mono ?_; rintro e w2 ⟨he, hb2⟩; rw [hd.out] at he; subst he; obtain ⟨nc, nf, nl, nB⟩ := HX5.out.keep hb2)
    refine bodyPost_ret (v := .tuple #[.agg #[.slice none 0 0], .bool false]) (by simp [results, Tryd.results54, go_sem, nc]) rfl ⟨_, [], false, rfl, HC.out, dg_nilM _ _, by simp, fun j => by simp [row], ?_⟩
    exact (HBA.out.trans (hb2.mono HBA.out.size)).setCell (by show w.heap.size ≤ w.heap.size + 5; omega) _
  have hd := Lib.hid (dec_true hok)
  have HOK := Lib.hid hok
  clear hok
  by_cases hok2 : MdOk p q W
  case neg =>
    have hd2 := Lib.hid (dec_false hok2)
    have HC := Lib.hid (show CmS g p M q W [] false from .inr ⟨fun h => hok2 h.2, rfl, rfl⟩)
    clear hok2
    go_enter Tryd.func54, Tryd.ntmps54
    go_upto_region 1 with fail
    rw [← hW0]
    clear hW0
    have c0 := HX0.out.cell
    have c1 := HX1.out.cell
    have c2 := HX2.out.cell
    go_wp2_with (first
      | (go_at_call 55; refine (implModelOk_any _ _ _ p q W hpl _ (HP.out.below hb2) (HQ.out.below hb2) (HW.out.below hb2) (HT.out.keep hb2)).mono ?_; rintro e w3 ⟨he, hb3⟩; rw [hd2.out] at he; subst he; obtain ⟨nc, nf, nl, nB⟩ := (HX5.out.keep hb2).keep hb3)
      | (go_at_call 55; refine (implModelOk_any _ _ _ g p M hgl _ HG.out HP.out HM.out HT.out).mono ?_; rintro e w2 ⟨he, hb2⟩; rw [hd.out] at he; subst he; have k1 := (HX1.out.keep hb2).cell; have k3 := (HX3.out.keep hb2).cell; have k4 := (HX4.out.keep hb2).cell))
    refine bodyPost_ret (v := .tuple #[.agg #[.slice none 0 0], .bool false]) (by simp [results, Tryd.results54, go_sem, nc]) rfl ⟨_, [], false, rfl, HC.out, dg_nilM _ _, by simp, fun j => by simp [row], ?_⟩
    exact ((HBA.out.trans (hb2.mono HBA.out.size)).trans (hb3.mono (Nat.le_trans HBA.out.size hb2.size))).setCell (by show w.heap.size ≤ w.heap.size + 5; omega) _
  have hd2 := Lib.hid (dec_true hok2)
  have HOK2 := Lib.hid hok2
  clear hok2
  have HG16 := Lib.hid (HOK.out.1.1.1.1.1.le)
  have HMIN : Hid (∀ a, a < M.length → ∀ y ∈ row M a, 0 ≤ y ∧ y < 16) := Lib.hid (fun a ha y hy => by
    have := (mdOk_sets HOK.out ha).1 y hy
    have := HG16.out
    omega)
  have HWIN : Hid (∀ a, a < W.length → ∀ y ∈ row W a, 0 ≤ y ∧ y < M.length) := Lib.hid (fun a ha y hy => by rw [HOK.out.1.2]; exact (mdOk_sets HOK2.out ha).1 y hy)
  have HMIN0 : Hid (∀ j, ∀ x ∈ row M j, 0 ≤ x) := Lib.hid (fun j x hx => by
    by_cases e : j < M.length
    · exact (HMIN.out j e x hx).1
    · have : row M j = [] := by simp [row, List.getElem?_eq_none (show M.length ≤ j by omega)]
      rw [this] at hx; simp at hx)
  have HML16 := Lib.hid (HOK.out.1.1.1.1.2)
  have HWL16 := Lib.hid (HOK2.out.1.1.1.1.2)
  have HP16 := Lib.hid (HOK2.out.1.1.1.1.1.le)
  have hM16 := HML16.out
  go_enter Tryd.func54, Tryd.ntmps54
  go_upto_region 1 with fail
  rw [← hW0]
  clear hW0
  have c0 := HX0.out.cell
  have c1 := HX1.out.cell
  have c2 := HX2.out.cell
  go_upto_region 3 with (first
    | (go_at_call 55; refine (implModelOk_any _ _ _ p q W hpl _ (HP.out.below hb2) (HQ.out.below hb2) (HW.out.below hb2) (HT.out.keep hb2)).mono ?_; rintro e w3 ⟨he, hb3⟩; rw [hd2.out] at he; subst he)
    | (go_at_call 55; refine (implModelOk_any _ _ _ g p M hgl _ HG.out HP.out HM.out HT.out).mono ?_; rintro e w2 ⟨he, hb2⟩; rw [hd.out] at he; subst he; have k1 := (HX1.out.keep hb2).cell; have k3 := (HX3.out.keep hb2).cell; have k4 := (HX4.out.keep hb2).cell))
  have HB3 : Hid (Below W0.heap.size W0 w3) := Lib.hid (hb2.trans (hb3.mono hb2.size))
  have hc2 := (HX2.out.keep HB3.out).cell
  clear hb2 hb3 c0 c1 c2 k1 k3 k4
  go_upto_region 4 with (go_at_call 141; refine (bagMasks_any _ M HMIN.out (by omega) _ (HMR.out.below HB3.out)).mono ?_; rintro e w4 ⟨u4, rfl, ho4, hb4⟩; obtain ⟨bp, bc, rfl⟩ := owns_shapeE ho4)
  have HB4 : Hid (Below W0.heap.size W0 w4) := Lib.hid (HB3.out.trans (hb4.mono HB3.out.size))
  have SLM := Lib.hid (Sl.of_owns ho4 (by omega))
  have START := Lib.hid (ownsRow_empty w4 79 1)
  have h04 := HB4.out.size
  have hc4 := (HX4.out.keep (HB4.out.alloc HB4.out.size (.cells #[] 79))).cell
  clear hc2 hb4 ho4
  go_wp2_with fail
  go_loopw [13, 39] (fun ov iv wr => ∃ (i : Nat) (a : List Nat), i ≤ W.length ∧ iv = .int .i64 i ∧ Hid (CmuTo M W a i) ∧ wr.ownsRow w4.heap.size 79 1 ov i (a.map u32v) ∧ Below w4.heap.size w4 wr) (fun _ iv _ => W.length - (intOf iv).toNat)
  case atStart => exact ⟨0, [], Nat.zero_le _, rfl, Lib.hid ⟨rfl, fun i hi => absurd hi (Nat.not_lt_zero _)⟩, START.out, below_alloc _ _⟩
  case round =>
    clear START hc4
    obtain ⟨i, a, hi, rfl, HA, hown, hb⟩ := hrel
    have HO := Lib.hid hown
    have HB := Lib.hid hb
    have hwl16 := HWL16.out
    obtain ⟨wo, rfl⟩ : ∃ wo, wo = wr := ⟨_, rfl⟩
    by_cases hlt : i < W.length
    · obtain ⟨wb, wo', rp, rc, rfl, hce, hne⟩ := HWR.out.get (k := i) hlt
      replace hce : W0.cell? ⟨wb, wo' + i, none⟩ = some (.slice rp (row W i).length rc) := hce
      replace hne : Nums W0 2 .i64 (.slice rp (row W i).length rc) (row W i) := hne
      have HNE : Hid (Nums wo 2 .i64 (.slice rp (row W i).length rc) (row W i)) := Lib.hid ((hne.below HB4.out).below hb)
      replace hce := (hb.at' (HB4.out.at' hce))
      have HWi := Lib.hid (HWIN.out i hlt)
      have HRL : Hid ((row W i).length ≤ 16) := Lib.hid (by
        have := setIn_length (by omega) (mdOk_sets HOK2.out hlt)
        have := HP16.out
        omega)
      have SLO := Lib.hid (SLM.out.below hb)
      have hib : i < 1000000000 := by omega
      clear hne hb hown
      go_wp2_with fail
      go_loopw [16, 45] (fun sv kv wr => ∃ (k s : Nat), k ≤ (row W i).length ∧ kv = .int .i64 k ∧ sv = .int .u32 (s : Int) ∧ Hid (UbI M ((row W i).take k) s) ∧ wo = wr) (fun _ kv _ => (row W i).length - (intOf kv).toNat)
      case atStart => exact ⟨0, 0, Nat.zero_le _, rfl, rfl, Lib.hid (UbI.start _), rfl⟩
      case round =>
        clear hce
        obtain ⟨k, s, hk, rfl, rfl, HU, rfl⟩ := hrel
        have hrl := HRL.out
        by_cases hltk : k < (row W i).length
        · obtain ⟨nb, no, rfl, hcn⟩ := HNE.out.get (k := k) hltk
          have hin := HWi.out _ (List.getElem_mem hltk)
          obtain ⟨m, hm⟩ : ∃ m : Nat, (row W i)[k] = (m : Int) := ⟨(row W i)[k].toNat, by omega⟩
          rw [hm] at hcn hin
          have hmM : m < M.length := by omega
          have htk : Hid ((row W i).take (k + 1) = (row W i).take k ++ [(m : Int)]) := Lib.hid (by rw [take_snoc' _ k hltk, hm])
          have hl2 : (M.map mask).length = M.length := List.length_map ..
          have hsl := SLO.out
          rw [← hl2] at hsl
          obtain ⟨qb, qo, rfl, hq⟩ := nets_cell hsl (v := m) (by rw [hl2]; exact hmM)
          have e1 : (M.map mask)[m]'(by rw [hl2]; exact hmM) = mask (row M m) := by simp [row, hmM]
          rw [e1] at hq
          obtain ⟨mm, hmm⟩ : ∃ mm, mm = mask (row M m) := ⟨_, rfl⟩
          rw [← hmm] at hq
          have hm16 : mm < 65536 := by rw [hmm]; exact mask_lt16 _ fun x hx => (HMIN.out m hmM x hx).2
          have hs16 := HU.out.1
          have HU2 : Hid (UbI M ((row W i).take (k + 1)) (s ||| mm)) := Lib.hid (by rw [htk.out]; exact HU.out.put (j := (m : Int)) (by simpa using HMIN.out m hmM) (by simpa using hmm))
          have hor := u32_or_nat s mm (by omega) (by omega)
          clear hsl hl2 e1 hmm hm
          obtain ⟨wl, hwl'⟩ : ∃ wl, wl = (row W i).length := ⟨_, rfl⟩
          have HWLE := Lib.hid hwl'
          rw [← hwl'] at hltk hk hrl ⊢
          clear hwl'
          go_wp2_with fail
          go_roundw
          case rel => exact ⟨k + 1, s ||| mm, by have := HWLE.out; omega, by go_num, rfl, HU2, by first | trivial | rfl⟩
          case measure => have := HWLE.out; simp [intOf]; omega
        · obtain rfl : k = (row W i).length := by omega
          have HU2 : Hid (UbI M (row W i) s) := Lib.hid (by have h1 := HU.out; rwa [List.take_length] at h1)
          have ho := HO.out
          have hs4 := HB.out.size
          go_wp2_with (at_builtin; refine wpList_app1s ty_vsets' rfl rfl rfl ho rfl rfl hib hs4 ?_; intro b7 c8 w7 hown7 hg7 _)
          go_roundw
          case rel => exact ⟨i + 1, a ++ [s], by omega, by go_num, Lib.hid (HA.out.snoc HU2.out), by rw [List.map_append]; exact hown7, below_grown HB.out ho hg7 (Nat.le_refl _) hs4⟩
          case measure => simp [intOf]; omega
    · obtain rfl : i = W.length := by omega
      have hal := HA.out.1
      have HAL := Lib.hid hal
      have HCS : Hid (CmS g p M q W (rowsOf a) true) := Lib.hid (.inl ⟨HOK.out, HOK2.out, HA.out.all HMIN0.out, rfl⟩)
      have HRR := Lib.hid (row_rows_le HA.out.lt)
      have HLT : Hid (∀ s ∈ a, s < 4294967296) := Lib.hid (fun s hs => by have := HA.out.lt s hs; omega)
      have HSL : Hid (Sl wo 79 _ a.length (a.map u32v)) := Lib.hid (by rw [HAL.out]; exact Sl.of_owns hown (by omega))
      have HBO := Lib.hid (HB4.out.trans (hb.mono h04))
      have hal5 : a.length ≤ 100000 := by omega
      have hrl : (rowsOf a).length ≤ 16 := by rw [rowsOf_length]; omega
      have HRL := Lib.hid hrl
      clear hown hb hal hrl
      go_wp2_with (go_at_call 96; refine (results_any _ a HLT.out hal5 _ HSL.out (HT.out.keep HBO.out)).mono ?_; rintro e w7 ⟨u7, rfl, hd7, hb7⟩; obtain ⟨rp7, rc7, e7⟩ := hd7.shape; cases e7; obtain ⟨nc, nf, nl, nB⟩ := (HX5.out.keep HBO.out).keep hb7)
      have h1 := HBA.out.size
      have h2 := HBO.out.size
      refine bodyPost_ret (v := .tuple #[.agg #[.slice rp7 (rowsOf a).length rc7], .bool true]) (by simp [results, Tryd.results54, go_sem, nc]) rfl ⟨_, rowsOf a, true, rfl, HCS.out, (hd7.setMm ⟨nc, nf, nl, nB⟩ _).base (by omega), HRL.out, HRR.out, ?_⟩
      exact (HBA.out.trans ((HBO.out.trans (hb7.mono h2)).mono h1)).setCell (by show w.heap.size ≤ w.heap.size + 5; omega) _

end Go.Proofs.YtmakhapdlkbbnaaDoor
