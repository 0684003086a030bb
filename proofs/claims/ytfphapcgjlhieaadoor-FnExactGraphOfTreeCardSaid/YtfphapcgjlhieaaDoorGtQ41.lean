/- Walks: QuotientAt of the reference. -/
import Derived.Test.YtfphapcgjlhieaaDoorGtQ40
import Derived.Test.YtfphapcgjlhieaaDoorGtQ35
namespace Go.Proofs.YtfphapcgjlhieaaDoor
open Go.RowKit

theorem Nums.sn {w : World} {base : Nat} {v : Value} {l : List Nat} {n : Nat} (h : w.ownsRow base 2 1 v n ((natInts l).map (Value.int .i64))) (hn : n ≤ 1000000000) (hl : l.length = n) : Nums w 2 .i64 v (natInts l) :=
  Nums.of_owns h (by rw [natInts_length, hl]) hn

set_option maxRecDepth 100000 in
set_option maxHeartbeats 4000000 in
theorem l17Quotient_yes (v tv : Value) (g : List (List Int)) (ts : List Pt) (x : Nat) (p : Pt) (hp : ts[x]? = some p) (hq : QtP g ts x) (w : World) (hg : Gr w v g) (htr : Trs w tv ts) :
    Calls Tryd.prog 61 #[v, tv, .int .i64 x] w fun e w' => ∃ u, e = .returned u ∧ SG w' w.heap.size u (indL g (natInts (quoL ts p))) ∧ Below w.heap.size w w' := by
  have hg0 := hg
  obtain ⟨u, rfl, hr⟩ := hg
  obtain ⟨gp, gc, rfl, _, _, hn⟩ := hr.shape
  obtain ⟨b, o, hvp⟩ : ∃ b o, ∃ vc, tv = .slice (some ⟨b, o, none⟩) ts.length vc := by
    obtain ⟨vp, vc, rfl, _⟩ := htr.shape
    obtain ⟨b, o, _, _, rfl, _⟩ := htr.at hp
    exact ⟨b, o, vc, rfl⟩
  obtain ⟨vc, rfl⟩ := hvp
  have hlen : ts.length ≤ 1000000000 := by obtain ⟨_, _, _, h⟩ := htr.shape; exact h
  obtain ⟨W0, hW0, hbA, SZ0, B0, B1⟩ := two_boxesM w (.slice gp g.length gc) (.slice none 0 0) 26 26
  have HSZ0 := Lib.hid SZ0
  clear SZ0
  have HBA := Lib.hid hbA
  have HG := Lib.hid (hg0.below hbA)
  have HTR := Lib.hid (htr.below hbA)
  have HB0 := Lib.hid B0
  have HB1 := Lib.hid B1
  obtain ⟨hin, hset, hne, h16, hlt⟩ := quo_inn hq (p := p) (by rw [Int.toNat_natCast]; exact hp)
  have HSET := Lib.hid hset
  have HNE : Hid (natInts (quoL ts p) ≠ []) := Lib.hid (fun e => hne (List.eq_nil_of_length_eq_zero (by rw [← natInts_length, e]; rfl)))
  have HOK := Lib.hid hq.1
  have HK := Lib.hid (parts_kids hq.2.1 hp)
  have HGD := Lib.hid (parts_good hq.2.1)
  have HMK := Lib.hid (msk_ok (ts := ts) ts.length (parts_good hq.2.1))
  have hxl := (List.getElem?_eq_some_iff.1 hp).1
  obtain ⟨pk, pv, ps⟩ := p
  have HQL : Hid ((quoL ts ⟨pk, pv, ps⟩).length = ps.length) := Lib.hid (quoL_length _ _)
  have hps16 : ps.length ≤ 16 := by rw [← HQL.out]; exact h16
  have HP := Lib.hid hp
  obtain ⟨L, hL⟩ : ∃ L, quoL ts ⟨pk, pv, ps⟩ = L := ⟨_, rfl⟩
  have HLS : Hid (∀ k (hk : k < ps.length), L.take (k + 1) = L.take k ++ [Lib.ctz 32 ((mskT ts).getD (ps[k]).toNat 0)]) := Lib.hid fun k hk => by rw [← hL]; exact quoL_snoc hk
  rw [hL] at HSET HNE HQL ⊢
  clear hr hg0 htr hbA B0 B1 hset hne h16 hlt hin hq hp hL
  go_enter Tryd.func61, Tryd.ntmps61
  go_upto_region 1 with fail
  rw [← hW0]
  clear hW0
  go_wp2
  go_loopw [7, 8] (fun ov i wr => ∃ k : Nat, k ≤ ps.length ∧ i = .int .i64 k ∧ wr.ownsRow W0.heap.size 2 1 ov k ((natInts (L.take k)).map (Value.int .i64)) ∧ Below W0.heap.size W0 wr) (fun _ i _ => ps.length - (intOf i).toNat)
  case atStart => exact ⟨0, Nat.zero_le _, rfl, ownsRow_empty W0 _ _, below_alloc _ _⟩
  case round =>
    obtain ⟨k, hk, rfl, hown, hbel⟩ := hrel
    have HO := Lib.hid hown
    have HB := Lib.hid hbel
    obtain ⟨op, oc, hov⟩ := owns_shapeTe hown
    subst hov
    obtain ⟨b', o', rp, rc, e, c0, c1, c2, hkn, hkl⟩ := (HTR.out.below hbel).at HP.out
    cases e
    simp only at c0 c1 c2 hkn hkl
    have hbs := hbel.size
    by_cases hlt : k < ps.length
    · obtain ⟨kb, ko, e, hck⟩ : ∃ b o, rp = some ⟨b, o, none⟩ ∧ wr.cell? ⟨b, o + k, none⟩ = some (.int .i64 ps[k]) := by
        obtain ⟨p', c', e, _, _, _, hat⟩ := hkn
        cases e
        exact hat.num hlt
      subst e
      have hy := HK.out ps[k] (List.getElem_mem _)
      obtain ⟨y, hye⟩ : ∃ y : Nat, ps[k] = (y : Int) := ⟨ps[k].toNat, by omega⟩
      have HY := Lib.hid hye
      rw [hye] at hck hy
      have hyl : y < ts.length := by omega
      have hym := HMK.out y hyl
      have HGY : Hid (∀ j, j ≤ y → GoodN ts j) := Lib.hid fun j hj => HGD.out j (by omega)
      obtain ⟨mm, hmm⟩ : ∃ mm, (mskT ts).getD y 0 = mm := ⟨_, rfl⟩
      have HMM := Lib.hid hmm
      rw [hmm] at hym
      obtain ⟨tl, htl⟩ := head_ctzTe hym.1 hym.2
      have HTL := Lib.hid htl
      obtain ⟨ct, hct⟩ : ∃ ct, Lib.ctz 32 mm = ct := ⟨_, rfl⟩
      have HC := Lib.hid hct
      rw [hct] at HTL
      clear hye hmm htl hct hkn hbel hown
      go_wp2_with (first
        | (at_builtin; refine wpList_app1s ty_i64 rfl rfl rfl ho4 rfl rfl (by omega) (by omega) ?_; intro b7 c7 w7 hown7 hg7 _; have BG7 := below_grown hb4w ho4 hg7 (Nat.le_refl _) (by omega))
        | (go_at_call 112; refine (l16Has_any _ _ ts ts.length y hyl hyl HGY.out _ (HTR.out.below HB.out)).mono ?_; rintro e w4 ⟨uv, rfl, hnu, hb4⟩; rw [HMM.out, HTL.out] at hnu; obtain ⟨up, uc, rfl, _, _, _, hatu⟩ := hnu; obtain ⟨ub, uo, rfl, hcu⟩ := hatu.num (k := 0) (by simp); simp only [List.getElem_cons_zero, Nat.add_zero] at hcu; obtain ⟨ul, hul⟩ : ∃ ul, (((ct : Nat) : Int) :: tl).length = ul := ⟨_, rfl⟩; have hul0 : 0 < ul := (by rw [← hul]; exact Nat.succ_pos _); have hul1 : (0 : Int) < (ul : Int) := (by omega); rw [hul]; have ho4 := ownsRow_below HO.out hb4; have hb4w := HB.out.trans (hb4.mono HB.out.size); have hs4 := hb4w.size; clear hul hatu))
      go_roundw
      case rel =>
        refine ⟨k + 1, by omega, by go_num, ?_, BG7⟩
        rw [HLS.out k hlt, HY.out, Int.toNat_natCast, HMM.out, HC.out, natInts_appTe, List.map_append]
        exact hown7
      case measure => simp [intOf]; omega
    · obtain rfl : k = ps.length := by omega
      have HN : Hid (Nums wr 2 .i64 (.slice op ps.length oc) (natInts L)) := Lib.hid (by
        rw [List.take_of_length_le (by rw [HQL.out]; exact Nat.le_refl _)] at hown
        exact Nums.sn hown (by omega) HQL.out)
      have HGr := Lib.hid (HG.out.below hbel)
      have HBX0 := Lib.hid (HB0.out.keep hbel)
      have HBX1 := Lib.hid (HB1.out.keep hbel)
      have q0 := HBX0.out.cell
      have q1 := HBX1.out.cell
      have f1 := HBX1.out.free
      clear hown hbel hkn
      go_wp2_with (go_at_call 119; refine (specInduced_yes _ _ g (natInts L) HOK.out HSET.out HNE.out _ HGr.out HN.out).mono ?_; rintro e w4 ⟨uu, rfl, hsg, hb4⟩; obtain ⟨yp, yc, rfl⟩ := hsg.shape; have HSG := Lib.hid hsg; have HB4 := Lib.hid hb4; have qb1 := HBX1.out.keep hb4; have f14 := fun o => (qb1.alloc o).free; have c14 := fun o => (qb1.alloc o).cell; have QB := Lib.hid qb1; clear hsg hb4 qb1)
      have QC := (QB.out.alloc (.cells #[.slice yp (indL g (natInts L)).length yc] 26)).set (.slice yp (indL g (natInts L)).length yc)
      have mc := QC.cell
      have hsz := HSZ0.out
      have s1 := HBA.out.size
      have s2 := HB.out.size
      refine bodyPost_ret (v := .agg #[.slice yp (indL g (natInts L)).length yc]) (by simp [results, Tryd.results61, go_sem, mc]) rfl ⟨_, rfl, ?_, ?_⟩
      · exact ((HSG.out.below (below_alloc _ _)).setBox (QB.out.alloc _) _).base (by omega)
      · refine Below.setCell (((HBA.out.trans (HB.out.mono s1)).trans (HB4.out.mono (by omega))).alloc (by have := HB4.out.size; omega) _) ?_ _
        show w.heap.size ≤ w.heap.size + 1
        omega

/-- What is handed back. -/
def QtE (g : List (List Int)) (ts : List Pt) (x : Int) (w : World) (e : Ending) (w' : World) : Prop :=
  ∃ (u : Value) (R : List (List Int)) (ok : Bool), e = .returned (.tuple #[u, .bool ok]) ∧ QtS g ts x R ok ∧ SG w' w.heap.size u R ∧ R.length ≤ 16 ∧ (∀ j, (row R j).length ≤ 16) ∧ Below w.heap.size w w'
theorem row_nilQ (j : Nat) : (row ([] : List (List Int)) j).length ≤ 16 := by simp [row]
theorem row_indQ {g : List (List Int)} {l : List Int} (h : l.length ≤ 16) (j : Nat) : (row (indL g l) j).length ≤ 16 := Nat.le_trans (matG_row_le j) h

set_option maxRecDepth 100000 in
set_option maxHeartbeats 4000000 in
theorem specQuotientAt_any' (v tv : Value) (g : List (List Int)) (ts : List Pt) (x : Int) (w : World) (hg : Gr w v g) (htr : Trs w tv ts) :
    Calls Tryd.prog 17 #[v, tv, .int .i64 x] w (QtE g ts x w) := by
  have hg0 := hg
  obtain ⟨u, rfl, hr⟩ := hg
  obtain ⟨gp, gc, rfl, _, _, hn⟩ := hr.shape
  obtain ⟨vp, vc, rfl, hlen⟩ := htr.shape
  obtain ⟨W0, hW0, hbA, SZ0, B0, B1⟩ := two_boxesM w (.slice gp g.length gc) (.slice none 0 0) 26 26
  have HSZ0 := Lib.hid SZ0
  have HBA := Lib.hid hbA
  have HG := Lib.hid (hg0.below hbA)
  have HTR := Lib.hid (htr.below hbA)
  have HB1 := Lib.hid B1
  have c0 := B0.cell
  have NO : Hid (¬ QtP g ts x → ∀ wz, Below W0.heap.size W0 wz → QtE g ts x w (.returned (.tuple #[.agg #[.slice none 0 0], .bool false])) (wz.setCell ⟨w.heap.size + 1, 0, none⟩ (.slice none 0 0))) := Lib.hid fun h wz hb => by
    refine ⟨_, [], false, rfl, .inr ⟨h, rfl, rfl⟩, ⟨_, [], rfl, rfl, ⟨rfl, .inl ⟨rfl, rfl⟩⟩, fun j hj => by simp at hj⟩, by decide, row_nilQ, ?_⟩
    refine Below.setCell (HBA.out.trans (hb.mono HBA.out.size)) ?_ _
    show w.heap.size ≤ w.heap.size + 1
    omega
  have CEL : Hid (∀ wz, Below W0.heap.size W0 wz → wz.cell? ⟨w.heap.size, 0, none⟩ = some (.slice gp g.length gc)) := Lib.hid fun wz hb => hb.at' c0
  clear hr hg0 htr hbA B0 B1 SZ0
  by_cases hf : FitQ g ts
  case neg =>
    have HD := Lib.hid (dec_false hf)
    have HN : Hid (¬ QtP g ts x) := Lib.hid fun h => hf ⟨h.1, h.2.1, h.2.2.1⟩
    clear hf
    go_enter Tryd.func17, Tryd.ntmps17
    go_upto_region 1 with fail
    rw [← hW0]
    clear hW0
    go_wp2_with (go_at_call 59; refine (l17Fits_any _ _ g ts _ HG.out HTR.out).mono ?_; rintro e w2 ⟨he, hb2⟩; rw [HD.out] at he; subst he; have qb := HB1.out.keep hb2; have mf := qb.free; have ml := qb.cell; have QB := Lib.hid qb; clear qb)
    have mc := (QB.out.set (.slice none 0 0)).cell
    exact bodyPost_ret (v := .tuple #[.agg #[.slice none 0 0], .bool false]) (by simp [results, Tryd.results17, go_sem, mc]) rfl (NO.out HN.out _ hb2)
  have HD := Lib.hid (dec_true hf)
  by_cases hx : 0 ≤ x ∧ x ≤ (ts.length : Int) - 1
  case neg =>
    have HD2 := Lib.hid (dec_false hx)
    have HN : Hid (¬ QtP g ts x) := Lib.hid fun h => hx ⟨h.2.2.2.1, by have := h.2.2.2.2.1; omega⟩
    have hwr : IntKind.i64.wrap ((ts.length : Int) - 1) = (ts.length : Int) - 1 := by rw [IntKind.wrap_i64]; omega
    have HWR := Lib.hid hwr
    clear hf hx hwr
    go_enter Tryd.func17, Tryd.ntmps17
    go_upto_region 1 with fail
    rw [← hW0]
    clear hW0
    go_wp2_with (first
      | (go_at_call 59; refine (l17Fits_any _ _ g ts _ HG.out HTR.out).mono ?_; rintro e w2 ⟨he, hb2⟩; rw [HD.out] at he; subst he; have qb := HB1.out.keep hb2; have mf := qb.free; have ml := qb.cell; have QB := Lib.hid qb; clear qb)
      | (go_at_call 60; refine (l1In_any x 0 ((ts.length : Int) - 1) _).mono ?_; rintro e w3 ⟨he, rfl⟩; rw [HD2.out] at he; subst he))
    have mc := (QB.out.set (.slice none 0 0)).cell
    exact bodyPost_ret (v := .tuple #[.agg #[.slice none 0 0], .bool false]) (by simp [results, Tryd.results17, go_sem, mc]) rfl (NO.out HN.out _ hb2)
  have HD2 := Lib.hid (dec_true hx)
  obtain ⟨y, rfl⟩ : ∃ y : Nat, x = (y : Int) := ⟨x.toNat, by omega⟩
  have hyl : y < ts.length := by omega
  obtain ⟨⟨pk, pv, ps⟩, hp⟩ : ∃ p, ts[y]? = some p := ⟨_, List.getElem?_eq_getElem hyl⟩
  obtain ⟨b, o, rp, rc, e, d0, _⟩ := HTR.out.at hp
  subst e
  simp only at d0
  have D0 : Hid (∀ wz, Below W0.heap.size W0 wz → wz.cell? ⟨b, o + y * 3, none⟩ = some (.int .i64 pk)) := Lib.hid fun wz hb => hb.at' d0
  have HP := Lib.hid hp
  by_cases hk1 : pk = 1
  · have HN : Hid (¬ QtP g ts (y : Int)) := Lib.hid fun h => h.2.2.2.2.2 _ (by rw [Int.toNat_natCast]; exact HP.out) hk1
    subst hk1
    clear hf hx hp d0
    go_enter Tryd.func17, Tryd.ntmps17
    go_upto_region 1 with fail
    rw [← hW0]
    clear hW0
    go_wp2_with (first
      | (go_at_call 59; refine (l17Fits_any _ _ g ts _ HG.out HTR.out).mono ?_; rintro e w2 ⟨he, hb2⟩; rw [HD.out] at he; subst he; have qb := HB1.out.keep hb2; have mf := qb.free; have ml := qb.cell; have QB := Lib.hid qb; have dd := D0.out _ hb2; clear qb)
      | (go_at_call 60; refine (l1In_any (y : Int) 0 ((ts.length : Int) - 1) _).mono ?_; rintro e w3 ⟨he, rfl⟩; rw [HD2.out] at he; subst he))
    have mc := (QB.out.set (.slice none 0 0)).cell
    exact bodyPost_ret (v := .tuple #[.agg #[.slice none 0 0], .bool false]) (by simp [results, Tryd.results17, go_sem, mc]) rfl (NO.out HN.out _ hb2)
  have hq : QtP g ts (y : Int) := ⟨hf.1, hf.2.1, hf.2.2, by omega, by omega, fun q hq => by
    rw [Int.toNat_natCast] at hq
    obtain rfl := Option.some.inj (hq.symm.trans hp)
    exact hk1⟩
  have HQ := Lib.hid hq
  have n1 : (pk == 1) = false := by simpa using hk1
  obtain ⟨_, _, _, h16, _⟩ := quo_inn hq (p := ⟨pk, pv, ps⟩) (by rw [Int.toNat_natCast]; exact hp)
  have H16 := Lib.hid h16
  clear hf hx hp d0 hk1 hq h16
  go_enter Tryd.func17, Tryd.ntmps17
  go_upto_region 1 with fail
  rw [← hW0]
  clear hW0
  go_wp2_with (first
    | (go_at_call 61; refine (l17Quotient_yes _ _ g ts y _ HP.out HQ.out _ (HG.out.below hb2) (HTR.out.below hb2)).mono ?_; rintro e w4 ⟨uu, rfl, hsg, hb4⟩; obtain ⟨yp, yc, rfl⟩ := hsg.shape; have HSG := Lib.hid hsg; have HB4 := Lib.hid hb4; have qb4 := QB.out.keep hb4; have mf4 := qb4.free; have ml4 := qb4.cell; have QB4 := Lib.hid qb4; clear hsg hb4 qb4)
    | (go_at_call 59; refine (l17Fits_any _ _ g ts _ HG.out HTR.out).mono ?_; rintro e w2 ⟨he, hb2⟩; rw [HD.out] at he; subst he; have qb := HB1.out.keep hb2; have mf := qb.free; have ml := qb.cell; have QB := Lib.hid qb; have dd := D0.out _ hb2; have cc := CEL.out _ hb2; clear qb)
    | (go_at_call 60; refine (l1In_any (y : Int) 0 ((ts.length : Int) - 1) _).mono ?_; rintro e w3 ⟨he, rfl⟩; rw [HD2.out] at he; subst he))
  have mc := (QB4.out.set (.slice yp (indL g (natInts (quoL ts ⟨pk, pv, ps⟩))).length yc)).cell
  have s1 := HBA.out.size
  have s2 := hb2.size
  refine bodyPost_ret (v := .tuple #[.agg #[.slice yp (indL g (natInts (quoL ts ⟨pk, pv, ps⟩))).length yc], .bool true]) (by simp [results, Tryd.results17, go_sem, mc]) rfl ?_
  refine ⟨_, _, true, rfl, .inl ⟨HQ.out, rfl, _, by rw [Int.toNat_natCast]; exact HP.out, rfl⟩, (HSG.out.setBox QB4.out _).base (by omega), ?_, row_indQ (by rw [natInts_length]; exact H16.out), ?_⟩
  · unfold indL
    rw [matG_length, natInts_length]
    exact H16.out
  · refine Below.setCell (((HBA.out.trans (hb2.mono s1)).trans (HB4.out.mono (by omega)))) ?_ _
    show w.heap.size ≤ w.heap.size + 1
    omega

theorem specQuotientAt_any (v tv : Value) (g : List (List Int)) (ts : List Pt) (x : Int) (w : World) (hg : Gr w v g) (htr : Trs w tv ts) :
    Calls Tryd.prog 17 #[v, tv, .int .i64 x] w fun e w' => ∃ (u : Value) (R : List (List Int)) (ok : Bool), e = .returned (.tuple #[u, .bool ok]) ∧ QtS g ts x R ok ∧ SG w' w.heap.size u R ∧ R.length ≤ 16 ∧ (∀ j, (row R j).length ≤ 16) ∧ Below w.heap.size w w' :=
  (specQuotientAt_any' v tv g ts x w hg htr).mono fun e w' h => h

end Go.Proofs.YtfphapcgjlhieaaDoor
