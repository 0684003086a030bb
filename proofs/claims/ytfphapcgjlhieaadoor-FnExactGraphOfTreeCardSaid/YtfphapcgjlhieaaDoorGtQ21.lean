/- Walk: is a tree right, by the reference. -/
import Derived.Test.YtfphapcgjlhieaaDoorGtQ19
import Derived.Test.YtfphapcgjlhieaaDoorGtQ20
namespace Go.Proofs.YtfphapcgjlhieaaDoor
open Go.RowKit

theorem head_ctzTe {m : Nat} (h : m < 65536) (h0 : m ≠ 0) : ∃ l, natInts (bitsOf m) = ((Lib.ctz 32 m : Nat) : Int) :: l := ⟨_, by rw [bitsOf_step m h0 (by omega)]; rfl⟩

/-- The least vertex of the last kid that was looked at. -/
def lastTe (M : List Nat) (ps : List Int) : Nat → Int
  | 0 => -1
  | q + 1 => ((Lib.ctz 32 (M.getD (ps.getD q 0).toNat 0) : Nat) : Int)
theorem lastTe_lt (M : List Nat) (ps : List Int) (q : Nat) : -1 ≤ lastTe M ps q := by
  cases q with
  | zero => exact Int.le_refl _
  | succ q => show -1 ≤ ((_ : Nat) : Int); omega
theorem lastTe_succ {M : List Nat} {ps : List Int} {q y m c : Nat} (hq : q < ps.length) (hy : ps[q] = (y : Int)) (hm : M.getD y 0 = m) (hc : Lib.ctz 32 m = c) : lastTe M ps (q + 1) = (c : Int) := by
  show ((Lib.ctz 32 (M.getD (ps.getD q 0).toNat 0) : Nat) : Int) = _
  rw [getD_atT hq, hy, Int.toNat_natCast, hm, hc]
theorem lastTe_not {M : List Nat} {k v : Int} {ps : List Int} {q y m c : Nat} {z : Int} (hq : q < ps.length) (hr : RisS M ⟨k, v, ps⟩) (hy : ps[q] = (y : Int)) (hm : M.getD y 0 = m) (hc : Lib.ctz 32 m = c) (hz : lastTe M ps q = z) (hle : (c : Int) ≤ z) : False := by
  cases q with
  | zero =>
    have : (-1 : Int) = z := hz
    omega
  | succ q =>
    have h1 := hr q hq
    simp only at h1
    have h2 : ((Lib.ctz 32 (M.getD (ps.getD q 0).toNat 0) : Nat) : Int) = z := hz
    rw [getD_atT hq, hy, Int.toNat_natCast, hm, hc] at h1
    omega
theorem lastTe_next {M : List Nat} {ps : List Int} {q y m c : Nat} {z : Int} (hq : q < ps.length) (hs : ∀ m, m + 1 < q → Lib.ctz 32 (M.getD (ps.getD m 0).toNat 0) < Lib.ctz 32 (M.getD (ps.getD (m + 1) 0).toNat 0)) (hy : ps[q] = (y : Int)) (hm : M.getD y 0 = m) (hc : Lib.ctz 32 m = c) (hz : lastTe M ps q = z) (hle : ¬ (c : Int) ≤ z) :
    ∀ m, m + 1 < q + 1 → Lib.ctz 32 (M.getD (ps.getD m 0).toNat 0) < Lib.ctz 32 (M.getD (ps.getD (m + 1) 0).toNat 0) := fun j hj => by
  by_cases e : j + 1 = q
  · subst e
    have h2 : ((Lib.ctz 32 (M.getD (ps.getD j 0).toNat 0) : Nat) : Int) = z := hz
    rw [getD_atT hq, hy, Int.toNat_natCast, hm, hc]
    omega
  · exact hs j (by omega)

set_option maxRecDepth 100000 in
set_option maxHeartbeats 4000000 in
theorem specPartsOk_any' (v : Value) (ts : List Pt) (w : World) (htr : Trs w v ts) :
    Calls Tryd.prog 75 #[v] w fun e w' => e = .returned (.bool (dec (PartsS ts))) ∧ Below w.heap.size w w' := by
  obtain ⟨vp, vc, rfl, hlen⟩ := htr.shape
  have HTR := Lib.hid htr
  clear htr
  by_cases hn : 1 ≤ (ts.length : Int) ∧ (ts.length : Int) ≤ 31
  case neg =>
    have hd := dec_false hn
    have HN := Lib.hid (false_dec (show ¬ PartsS ts from fun h => hn ⟨by have := h.1; omega, by have := h.2.1; omega⟩))
    clear hn
    go_enter Tryd.func75, Tryd.ntmps75
    go_wp2_with (go_at_call 60; refine (l1In_any (ts.length : Int) 1 31 _).mono ?_; rintro e w2 ⟨he, rfl⟩; rw [hd] at he; subst he)
    go_ret
    exact ⟨ret_bool HN.out, Below.refl _ _⟩
  have hd := dec_true hn
  have hn1 : 1 ≤ ts.length := by omega
  have hn31 : ts.length ≤ 31 := by omega
  obtain ⟨m, hm⟩ : ∃ m, ts.length - 1 = m := ⟨_, rfl⟩
  have hml : m < ts.length := by omega
  have hwr : IntKind.i64.wrap ((ts.length : Int) - 1) = (m : Int) := by rw [IntKind.wrap_i64]; omega
  have hmi : (ts.length : Int) - 1 = (m : Int) := by omega
  by_cases hw : wkT ts ts.length m = some ts.length
  case neg =>
    have HN := Lib.hid (false_dec (show ¬ PartsS ts from fun h => hw (by rw [← hm]; exact h.2.2.1)))
    obtain ⟨z, hz⟩ : ∃ z, wkI (wkT ts ts.length m) = z := ⟨_, rfl⟩
    have HZ := Lib.hid hz
    have hne : (z != (ts.length : Int)) = true := by
      rw [← hz]
      cases hr : wkT ts ts.length m with
      | none => simp [wkI]; try omega
      | some q =>
        have : q ≠ ts.length := fun e => hw (by rw [hr, e])
        simp [wkI]
        try omega
    clear hz hw hn hm
    go_enter Tryd.func75, Tryd.ntmps75
    go_wp2_with (first
      | (go_at_call 60; refine (l1In_any (ts.length : Int) 1 31 _).mono ?_; rintro e w2 ⟨he, rfl⟩; rw [hd] at he; subst he)
      | (go_at_call 130; refine (l16Walk_any vp vc ts hn31 ts.length m hml hml _ HTR.out).mono ?_; rintro e w3 ⟨he, hb3⟩; rw [HZ.out] at he; subst he))
    go_ret
    exact ⟨ret_bool HN.out, hb3⟩
  have hsc := (str_iff hn1 (Nat.le_refl _)).1 (by rw [hm]; exact hw)
  have hgood := (sc_good _ _ hsc).2
  have HMK := Lib.hid (msk_ok (ts := ts) _ hgood)
  have HG := Lib.hid hgood
  have HW := Lib.hid hw
  have HM := Lib.hid hm
  have HKID : Hid (∀ (j : Nat) (p : Pt), ts[j]? = some p → ∀ k ∈ p.s, 0 ≤ k ∧ k < j) := Lib.hid fun j p hp k hk => by
    obtain ⟨p', hp', hh⟩ := hgood j (List.getElem?_eq_some_iff.1 hp).1
    obtain rfl : p = p' := Option.some.inj (hp.symm.trans hp')
    rcases hh with h | h
    · rw [h.2.2.2] at hk; cases hk
    · exact h.2 k hk
  clear hw hn hm hsc hgood
  go_enter Tryd.func75, Tryd.ntmps75
  have hnn : ((ts.length : Int) != (ts.length : Int)) = false := by simp
  go_wp2_with (first
    | (go_at_call 60; refine (l1In_any (ts.length : Int) 1 31 _).mono ?_; rintro e w2 ⟨he, rfl⟩; rw [hd] at he; subst he)
    | (go_at_call 130; refine (l16Walk_any vp vc ts hn31 ts.length m hml hml _ HTR.out).mono ?_; rintro e w3 ⟨he, hb3⟩; rw [HW.out] at he; simp only [wkI] at he; subst he))
  go_loopw [4, 5, 6, 7, 8] (fun lv i _ _ _ wr => ∃ k : Nat, k ≤ ts.length ∧ i = .int .i64 k ∧ lv = .int .i64 (lvs (ts.take k) : Nat) ∧ (∀ (j : Nat) (p : Pt), j < k → ts[j]? = some p → RisS (mskT ts) p) ∧ Below w.heap.size w wr) (fun _ i _ _ _ _ => ts.length - (intOf i).toNat)
  case atStart => exact ⟨0, Nat.zero_le _, rfl, rfl, fun j p hj => by omega, hb3⟩
  case round =>
    obtain ⟨k, hk, rfl, rfl, hris, hbel⟩ := hrel
    have HR := Lib.hid hris
    have HB := Lib.hid hbel
    have hlv : lvs (ts.take k) ≤ k := Nat.le_trans List.countP_le_length (by rw [List.length_take]; omega)
    clear hris
    by_cases hlt : k < ts.length
    · obtain ⟨⟨pk, pv, ps⟩, hp⟩ : ∃ p, ts[k]? = some p := ⟨_, List.getElem?_eq_getElem hlt⟩
      obtain ⟨b, o, rp, rc, rfl, c0, c1, c2, hkn, hkl⟩ := (HTR.out.below hbel).at hp
      simp only at c0 c1 c2 hkl
      have HKN := Lib.hid hkn
      have HP := Lib.hid hp
      have HKI := Lib.hid (HKID.out k _ hp)
      have HLV : Hid ((if pk = 1 then ((lvs (ts.take k) : Nat) : Int) + 1 else (lvs (ts.take k) : Nat)) = ((lvs (ts.take (k + 1)) : Nat) : Int)) := Lib.hid (by
        have et : ts.take (k + 1) = ts.take k ++ [⟨pk, pv, ps⟩] := by
          rw [List.take_succ_eq_append_getElem hlt, (List.getElem?_eq_some_iff.1 hp).2]
        rw [et, lvs_snoc]
        simp only
        split <;> simp)
      obtain ⟨lv, hlve⟩ : ∃ lv, lvs (ts.take k) = lv := ⟨_, rfl⟩
      obtain ⟨lv2, hlv2⟩ : ∃ lv, lvs (ts.take (k + 1)) = lv := ⟨_, rfl⟩
      rw [hlve, hlv2] at HLV
      rw [hlve] at hlv ⊢
      have HLE := Lib.hid hlve
      have HLE2 := Lib.hid hlv2
      clear hkn hp hbel hlve hlv2
      by_cases hk1 : pk = 1
      case pos =>
        subst hk1
        have e1 : ((lv : Nat) : Int) + 1 = (lv2 : Int) := by have := HLV.out; simpa using this
        have hb1 : ((1 : Int) == 1) = true := rfl
        have HE1 := Lib.hid e1
        clear e1
        go_upto_region 10 with fail
        rw [HE1.out]
        go_wp2
        clear c0 c1 c2
        obtain ⟨wo, rfl⟩ : ∃ wo, wo = wr := ⟨_, rfl⟩
        go_loopw [6, 7, 8] (fun la i _ wr => ∃ q : Nat, q ≤ ps.length ∧ i = .int .i64 q ∧ la = .int .i64 (lastTe (mskT ts) ps q) ∧ (∀ m, m + 1 < q → Lib.ctz 32 ((mskT ts).getD (ps.getD m 0).toNat 0) < Lib.ctz 32 ((mskT ts).getD (ps.getD (m + 1) 0).toNat 0)) ∧ Below wo.heap.size wo wr) (fun _ i _ _ => ps.length - (intOf i).toNat)
        case atStart => exact ⟨0, Nat.zero_le _, rfl, rfl, fun m hm => by omega, Below.refl _ _⟩
        case round =>
          obtain ⟨q, hq, rfl, rfl, hst, hbq⟩ := hrel
          have HST := Lib.hid hst
          have HBQ := Lib.hid hbq
          have HBW := Lib.hid (HB.out.trans (hbq.mono HB.out.size))
          have hla := Lib.hid (lastTe_lt (mskT ts) ps q)
          obtain ⟨z, hz⟩ : ∃ z, lastTe (mskT ts) ps q = z := ⟨_, rfl⟩
          have HZ := Lib.hid hz
          rw [hz] at hla ⊢
          clear hst hz
          obtain ⟨b2, o2, rp2, rc2, e, c0, c1, c2, hkn2, _⟩ := (HTR.out.below HBW.out).at HP.out
          cases e
          simp only at c0 c1 c2 hkn2
          by_cases hql : q < ps.length
          · obtain ⟨kb, ko, e, hck⟩ : ∃ b o, rp2 = some ⟨b, o, none⟩ ∧ wr.cell? ⟨b, o + q, none⟩ = some (.int .i64 ps[q]) := by
              obtain ⟨p', c', e, _, _, _, hat⟩ := hkn2
              cases e
              exact hat.num hql
            subst e
            have hy := HKI.out ps[q] (List.getElem_mem _)
            obtain ⟨y, hye⟩ : ∃ y : Nat, ps[q] = (y : Int) := ⟨ps[q].toNat, by omega⟩
            have HY := Lib.hid hye
            rw [hye] at hck hy
            have hyl : y < ts.length := by omega
            have hym := HMK.out y hyl
            have HGY : Hid (∀ j, j ≤ y → GoodN ts j) := Lib.hid fun j hj => HG.out j (by omega)
            obtain ⟨mm, hmm⟩ : ∃ mm, (mskT ts).getD y 0 = mm := ⟨_, rfl⟩
            have HMM := Lib.hid hmm
            rw [hmm] at hym
            obtain ⟨tl, htl⟩ := head_ctzTe hym.1 hym.2
            have HTL := Lib.hid htl
            obtain ⟨ct, hct⟩ : ∃ ct, Lib.ctz 32 mm = ct := ⟨_, rfl⟩
            have HC := Lib.hid hct
            rw [hct] at HTL
            have hct32 : ct < 32 := by rw [← hct]; exact (testBit_ctz mm hym.2 (by omega)).2.1
            clear hye hmm htl hct hkn2 hbq
            go_wp2_with (go_at_call 112; refine (l16Has_any _ _ ts ts.length y hyl hyl HGY.out _ (HTR.out.below HBW.out)).mono ?_; rintro e w4 ⟨uv, rfl, hnu, hb4⟩; rw [HMM.out, HTL.out] at hnu; obtain ⟨up, uc, rfl, _, _, _, hatu⟩ := hnu; obtain ⟨ub, uo, rfl, hcu⟩ := hatu.num (k := 0) (by simp); simp only [List.getElem_cons_zero, Nat.add_zero] at hcu; obtain ⟨ul, hul⟩ : ∃ ul, (((ct : Nat) : Int) :: tl).length = ul := ⟨_, rfl⟩; have hul0 : 0 < ul := (by rw [← hul]; exact Nat.succ_pos _); have hul1 : (0 : Int) < (ul : Int) := (by omega); rw [hul]; clear hul hatu)
            · have HN : Hid (false = dec (PartsS ts)) := Lib.hid (false_dec fun h => by
                have hr := h.2.2.2.1 _ _ HP.out
                exact lastTe_not hql hr HY.out HMM.out HC.out HZ.out (by omega))
              go_ret
              exact ⟨ret_bool HN.out, HBW.out.trans (hb4.mono HBW.out.size)⟩
            · go_roundw
              case rel =>
                refine ⟨q + 1, by omega, by go_num, val_int ?_, ?_, HBQ.out.trans (hb4.mono HBQ.out.size)⟩
                · exact (lastTe_succ hql HY.out HMM.out HC.out).symm
                · exact lastTe_next hql HST.out HY.out HMM.out HC.out HZ.out (by omega)
              case measure => simp [intOf]; omega
          · obtain rfl : q = ps.length := by omega
            clear hbq
            go_wp2
            go_roundw
            case rel =>
              refine ⟨k + 1, by omega, by go_num, ?_, fun j p hj hp => ?_, HBW.out⟩
              · rw [HLE2.out]
              · by_cases e : j = k
                · subst e
                  obtain rfl := Option.some.inj (hp.symm.trans HP.out)
                  exact HST.out
                · exact HR.out j p (by omega) hp
            case measure => simp [intOf]; omega
      case neg =>
        have hb1 : (pk == 1) = false := by simpa using hk1
        have e1 : lv = lv2 := by
          have h := HLV.out
          rw [if_neg hk1] at h
          omega
        subst e1
        obtain ⟨lv2, rfl⟩ : ∃ lv2, lv2 = lv := ⟨_, rfl⟩
        clear hk1
        go_upto_region 10 with fail
        go_wp2
        clear c0 c1 c2
        obtain ⟨wo, rfl⟩ : ∃ wo, wo = wr := ⟨_, rfl⟩
        go_loopw [6, 7, 8] (fun la i _ wr => ∃ q : Nat, q ≤ ps.length ∧ i = .int .i64 q ∧ la = .int .i64 (lastTe (mskT ts) ps q) ∧ (∀ m, m + 1 < q → Lib.ctz 32 ((mskT ts).getD (ps.getD m 0).toNat 0) < Lib.ctz 32 ((mskT ts).getD (ps.getD (m + 1) 0).toNat 0)) ∧ Below wo.heap.size wo wr) (fun _ i _ _ => ps.length - (intOf i).toNat)
        case atStart => exact ⟨0, Nat.zero_le _, rfl, rfl, fun m hm => by omega, Below.refl _ _⟩
        case round =>
          obtain ⟨q, hq, rfl, rfl, hst, hbq⟩ := hrel
          have HST := Lib.hid hst
          have HBQ := Lib.hid hbq
          have HBW := Lib.hid (HB.out.trans (hbq.mono HB.out.size))
          have hla := Lib.hid (lastTe_lt (mskT ts) ps q)
          obtain ⟨z, hz⟩ : ∃ z, lastTe (mskT ts) ps q = z := ⟨_, rfl⟩
          have HZ := Lib.hid hz
          rw [hz] at hla ⊢
          clear hst hz
          obtain ⟨b2, o2, rp2, rc2, e, c0, c1, c2, hkn2, _⟩ := (HTR.out.below HBW.out).at HP.out
          cases e
          simp only at c0 c1 c2 hkn2
          by_cases hql : q < ps.length
          · obtain ⟨kb, ko, e, hck⟩ : ∃ b o, rp2 = some ⟨b, o, none⟩ ∧ wr.cell? ⟨b, o + q, none⟩ = some (.int .i64 ps[q]) := by
              obtain ⟨p', c', e, _, _, _, hat⟩ := hkn2
              cases e
              exact hat.num hql
            subst e
            have hy := HKI.out ps[q] (List.getElem_mem _)
            obtain ⟨y, hye⟩ : ∃ y : Nat, ps[q] = (y : Int) := ⟨ps[q].toNat, by omega⟩
            have HY := Lib.hid hye
            rw [hye] at hck hy
            have hyl : y < ts.length := by omega
            have hym := HMK.out y hyl
            have HGY : Hid (∀ j, j ≤ y → GoodN ts j) := Lib.hid fun j hj => HG.out j (by omega)
            obtain ⟨mm, hmm⟩ : ∃ mm, (mskT ts).getD y 0 = mm := ⟨_, rfl⟩
            have HMM := Lib.hid hmm
            rw [hmm] at hym
            obtain ⟨tl, htl⟩ := head_ctzTe hym.1 hym.2
            have HTL := Lib.hid htl
            obtain ⟨ct, hct⟩ : ∃ ct, Lib.ctz 32 mm = ct := ⟨_, rfl⟩
            have HC := Lib.hid hct
            rw [hct] at HTL
            have hct32 : ct < 32 := by rw [← hct]; exact (testBit_ctz mm hym.2 (by omega)).2.1
            clear hye hmm htl hct hkn2 hbq
            go_wp2_with (go_at_call 112; refine (l16Has_any _ _ ts ts.length y hyl hyl HGY.out _ (HTR.out.below HBW.out)).mono ?_; rintro e w4 ⟨uv, rfl, hnu, hb4⟩; rw [HMM.out, HTL.out] at hnu; obtain ⟨up, uc, rfl, _, _, _, hatu⟩ := hnu; obtain ⟨ub, uo, rfl, hcu⟩ := hatu.num (k := 0) (by simp); simp only [List.getElem_cons_zero, Nat.add_zero] at hcu; obtain ⟨ul, hul⟩ : ∃ ul, (((ct : Nat) : Int) :: tl).length = ul := ⟨_, rfl⟩; have hul0 : 0 < ul := (by rw [← hul]; exact Nat.succ_pos _); have hul1 : (0 : Int) < (ul : Int) := (by omega); rw [hul]; clear hul hatu)
            · have HN : Hid (false = dec (PartsS ts)) := Lib.hid (false_dec fun h => by
                have hr := h.2.2.2.1 _ _ HP.out
                exact lastTe_not hql hr HY.out HMM.out HC.out HZ.out (by omega))
              go_ret
              exact ⟨ret_bool HN.out, HBW.out.trans (hb4.mono HBW.out.size)⟩
            · go_roundw
              case rel =>
                refine ⟨q + 1, by omega, by go_num, val_int ?_, ?_, HBQ.out.trans (hb4.mono HBQ.out.size)⟩
                · exact (lastTe_succ hql HY.out HMM.out HC.out).symm
                · exact lastTe_next hql HST.out HY.out HMM.out HC.out HZ.out (by omega)
              case measure => simp [intOf]; omega
          · obtain rfl : q = ps.length := by omega
            clear hbq
            go_wp2
            go_roundw
            case rel =>
              refine ⟨k + 1, by omega, by go_num, ?_, fun j p hj hp => ?_, HBW.out⟩
              · rw [HLE2.out]
              · by_cases e : j = k
                · subst e
                  obtain rfl := Option.some.inj (hp.symm.trans HP.out)
                  exact HST.out
                · exact HR.out j p (by omega) hp
            case measure => simp [intOf]; omega
    · obtain rfl : k = ts.length := by omega
      have hroot : rootM ts < 65536 ∧ rootM ts ≠ 0 := HMK.out _ (by omega)
      rw [List.take_length]
      have hlvl : lvs ts ≤ ts.length := by rwa [List.take_length] at hlv
      obtain ⟨lv, hlve⟩ : ∃ lv, lvs ts = lv := ⟨_, rfl⟩
      have HLVE := Lib.hid hlve
      obtain ⟨L, hL⟩ : ∃ L, bitsOf (rootM ts) = L := ⟨_, rfl⟩
      have HPS : Hid (PartsS ts ↔ L.length = lv ∧ L.getD (lv - 1) 0 + 1 = lv) := Lib.hid (by
        constructor
        · intro h
          have h1 := h.2.2.2.2.1
          have h2 := h.2.2.2.2.2
          rw [hlve, hL] at h2
          rw [hlve] at h1
          unfold cn at h1
          rw [hL] at h1
          exact ⟨h1, h2⟩
        · rintro ⟨h1, h2⟩
          refine ⟨hn1, hn31, by rw [HM.out]; exact HW.out, fun j p hp => HR.out j p (List.getElem?_eq_some_iff.1 hp).1 hp, ?_, ?_⟩
          · unfold cn
            rw [hL, hlve]; exact h1
          · rw [hL, hlve]; exact h2)
      have hL0 : 0 < L.length := by
        rw [← hL, bitsOf_step _ hroot.2 (by omega)]
        exact Nat.succ_pos _
      have hL32 : L.length ≤ 32 := by rw [← hL]; exact bitsOf_length _
      have HLL : Hid (natInts (bitsOf ((mskT ts).getD m 0)) = natInts L) := Lib.hid (by rw [← HM.out, ← hL]; rfl)
      have HGM : Hid (∀ j, j ≤ m → GoodN ts j) := Lib.hid fun j hj => HG.out j (by omega)
      have hx16 : ∀ i (h : i < L.length), L[i] < 16 := fun i h => bitsOf_lt16 hroot.1 (hL ▸ List.getElem_mem h)
      obtain ⟨nl, hnl⟩ : ∃ nl, L.length = nl := ⟨_, rfl⟩
      rw [hlve] at hlvl ⊢
      clear hlve hL hlv hroot
      have HNL := Lib.hid hnl
      by_cases hll : nl = lv
      case neg =>
        have hne : ((nl : Int) == (lv : Int)) = false := by simp; omega
        have HN := Lib.hid (false_dec (show ¬ PartsS ts from fun h => hll (by rw [← hnl]; exact (HPS.out.1 h).1)))
        clear hll hnl
        go_wp2_with (go_at_call 112; refine (l16Has_any _ _ ts ts.length m hml hml HGM.out _ (HTR.out.below hbel)).mono ?_; rintro e w4 ⟨uv, rfl, hnu, hb4⟩; rw [HLL.out] at hnu; obtain ⟨up, uc, rfl, _⟩ := hnu.shapeT; rw [natInts_length, HNL.out])
        go_ret
        exact ⟨ret_bool HN.out, HB.out.trans (hb4.mono HB.out.size)⟩
      subst hll
      have heq : ((nl : Int) == (nl : Int)) = true := by simp
      obtain ⟨q, hq⟩ : ∃ q, nl = q + 1 := ⟨nl - 1, by omega⟩
      have hqn : nl - 1 = q := by omega
      have hql : q < nl := by omega
      have hqi : ((q : Nat) : Int) < (nl : Int) := by omega
      have hwq : IntKind.i64.wrap ((nl : Int) - 1) = (q : Int) := by rw [IntKind.wrap_i64]; omega
      have hwq2 : (nl : Int) - 1 = (q : Int) := by omega
      have HQL : Hid (q < L.length) := Lib.hid (by omega)
      obtain ⟨x, hx⟩ : ∃ x, L[q]'HQL.out = x := ⟨_, rfl⟩
      have HX := Lib.hid hx
      have HQ := Lib.hid hqn
      clear hx hx16 hqn hq hnl hL0
      go_wp2_with (go_at_call 112; refine (l16Has_any _ _ ts ts.length m hml hml HGM.out _ (HTR.out.below hbel)).mono ?_; rintro e w4 ⟨uv, rfl, hnu, hb4⟩; rw [HLL.out] at hnu; obtain ⟨up, uc, rfl, _, _, _, hatu⟩ := hnu; obtain ⟨ub, uo, rfl, hcu⟩ := hatu.num (k := q) (by rw [natInts_length]; exact HQL.out); rw [natInts_getTe, HX.out] at hcu; rw [natInts_length, HNL.out]; clear hatu)
      go_ret
      refine ⟨ret_bool ?_, HB.out.trans (hb4.mono HB.out.size)⟩
      by_cases h : PartsS ts
      · have h2 := (HPS.out.1 h).2
        rw [HQ.out, getD_atT HQL.out, HX.out] at h2
        rw [dec_true h]
        simp
        omega
      · have h2 : x ≠ q := fun e => h (HPS.out.2 ⟨HNL.out, by rw [HQ.out, getD_atT HQL.out, HX.out]; omega⟩)
        rw [dec_false h]
        simp
        omega

theorem specPartsOk_any (v : Value) (ts : List Pt) (w : World) (htr : Trs w v ts) :
    Calls Tryd.prog 75 #[v] w fun e w' => e = .returned (.bool (dec (PartsI ts))) ∧ Below w.heap.size w w' := by
  rw [dec_congr (tparts_iff ts)]
  exact specPartsOk_any' v ts w htr

end Go.Proofs.YtfphapcgjlhieaaDoor
