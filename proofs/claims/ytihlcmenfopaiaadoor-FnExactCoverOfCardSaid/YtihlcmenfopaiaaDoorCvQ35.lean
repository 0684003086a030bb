/- Walk: the reference's CoverOf. -/
import Derived.Test.YtihlcmenfopaiaaDoorCvQ34
namespace Go.Proofs.YtihlcmenfopaiaaDoor
open Go.RowKit

set_option maxRecDepth 100000 in
set_option maxHeartbeats 4000000 in
theorem specCoverOf_any (v sv : Value) (g S : List (List Int)) (hgl : g.length ≤ 1000000000) (w : World) (hg : Gr w v g) (hs : Rws w 27 2 sv S) :
    Calls Tryd.prog 13 #[v, sv] w fun e w' => ∃ (ov : Value) (ys : List Int), e = .returned ov ∧ CvS g S ys ∧ ys.length ≤ 32 ∧ Nums w' 2 .i64 ov ys ∧ Below w.heap.size w w' := by
  have hg0 := hg
  obtain ⟨u, rfl, hr⟩ := hg
  obtain ⟨p, c, rfl, _⟩ := hr.shape
  have hbA := Lib.hid (below_alloc w (.cells #[.slice p g.length c] 29))
  have HG := Lib.hid (hg0.below hbA.out)
  have HS := Lib.hid (hs.below hbA.out)
  have BX := Lib.hid (Box.new w (.slice p g.length c) 29)
  have s0 := hbA.out.size
  clear hr hg0 hs
  by_cases hok : BrS g S
  case neg =>
    have hd := Lib.hid (dec_false hok)
    have HC := Lib.hid (show CvS g S [] from .inr ⟨hok, rfl⟩)
    clear hok
    go_enter Tryd.func13, Tryd.ntmps13
    go_wp2_with (go_at_call 52; refine (specBrambleOk_any _ _ g S hgl _ HG.out HS.out).mono ?_; rintro e w2 ⟨he, hb2⟩; rw [hd.out] at he; subst he)
    go_ret
    exact ⟨_, [], rfl, HC.out, by simp, Sl.nothing _ _ _ _ (by simp), (hbA.out.trans (hb2.mono s0)).alloc (Nat.le_trans s0 hb2.size) _⟩
  have hd := Lib.hid (dec_true hok)
  have h16 := hok.1.1.le
  have few : S.length ≤ 1000000 := by have := hok.1.2; omega
  have Hok := Lib.hid hok
  clear hok
  go_enter Tryd.func13, Tryd.ntmps13
  go_upto_region 3 with (go_at_call 52; refine (specBrambleOk_any _ _ g S hgl _ HG.out HS.out).mono ?_; rintro e w2 ⟨he, hb2⟩; rw [hd.out] at he; subst he)
  have BX2 := Lib.hid (BX.out.keep hb2)
  have HG2 := Lib.hid (HG.out.below hb2)
  have HS2 := Lib.hid (HS.out.below hb2)
  have HB2 := Lib.hid (hbA.out.trans (hb2.mono s0))
  clear hb2
  go_wp2_with fail
  go_loopw [5] (fun kv wr => ∃ k : Nat, k ≤ g.length + 1 ∧ kv = .int .i64 k ∧ Hid (∀ m, m < k → ∀ T ∈ setsL g.length m, ¬ CovN S (mask (natInts T))) ∧ Below w2.heap.size w2 wr) (fun kv _ => g.length + 1 - (intOf kv).toNat)
  case atStart => exact ⟨0, Nat.zero_le _, rfl, Lib.hid (fun a ha => absurd ha (Nat.not_lt_zero _)), Below.refl _ _⟩
  case round =>
    obtain ⟨k, hk, rfl, HNO, hb⟩ := hrel
    have HB := Lib.hid hb
    have hbx := (BX2.out.keep hb).cell
    by_cases hle : k ≤ g.length
    · have hli : (k : Int) ≤ (g.length : Int) := by omega
      obtain ⟨L, hL⟩ : ∃ L, L = setsL g.length k := ⟨_, rfl⟩
      have hLl : L.length ≤ 65536 := by rw [hL]; exact setsL_len h16 k
      have HLT : Hid (∀ T ∈ L, T.length ≤ 16) := Lib.hid (fun T hT => by
        rw [hL] at hT
        have := ((mem_setsL k T).1 hT).len
        omega)
      have HLE := Lib.hid hL
      clear hL hb
      go_wp2_with (first
        | (go_at_call 54; refine (l11Sets_any _ _ g.length k rfl rfl h16 (by omega) _).mono ?_; rintro e w5 ⟨u5, rfl, hsg, hb5⟩; rw [← HLE.out] at hsg; obtain ⟨_, e5, hrw⟩ := hsg.gr (by rw [List.length_map]; omega); cases e5; obtain ⟨ap, ac, rfl, _⟩ := hrw.shape; rw [List.length_map] at hrw; have HRW := Lib.hid hrw; have HB5 := Lib.hid (HB4.out.trans (hb5.mono HB4.out.size)); clear hsg hrw hb5)
        | (go_at_call 53; refine (l1Size_any _ g _ (HG2.out.below HB3.out)).mono ?_; rintro e w4 ⟨rfl, hb4⟩; have HB4 := Lib.hid (HB3.out.trans (hb4.mono HB3.out.size)); clear hb4)
        | (go_at_call 53; refine (l1Size_any _ g _ (HG2.out.below HB.out)).mono ?_; rintro e w3 ⟨rfl, hb3⟩; have HB3 := Lib.hid (HB.out.trans (hb3.mono HB.out.size)); have hbx3 := hb3.at' hbx; clear hb3))
      go_loopw [7] (fun iv wx => ∃ i : Nat, i ≤ L.length ∧ iv = .int .i64 i ∧ Hid (∀ j (h : j < L.length), j < i → ¬ CovN S (mask (natInts L[j]))) ∧ Below w5.heap.size w5 wx) (fun iv _ => L.length - (intOf iv).toNat)
      case atStart => exact ⟨0, Nat.zero_le _, rfl, Lib.hid (fun j _ hj => absurd hj (Nat.not_lt_zero _)), Below.refl _ _⟩
      case round =>
        obtain ⟨i, hi, rfl, HNB, hb⟩ := hrel
        have HBX := Lib.hid (HB5.out.trans (hb.mono HB5.out.size))
        have HBB := Lib.hid hb
        by_cases hlt : i < L.length
        · obtain ⟨T, hT⟩ : ∃ T, T = L[i] := ⟨_, rfl⟩
          obtain ⟨bb, bo, rp, rc, rfl, hco, hno⟩ := (HRW.out.below hb).get (k := i) (by rw [List.length_map]; exact hlt)
          have eo : (L.map natInts).getD i [] = natInts T := by rw [hT]; simp [hlt]
          rw [eo, natInts_length] at hco hno
          have hT16 : T.length ≤ 16 := by rw [hT]; exact HLT.out _ (List.getElem_mem hlt)
          have HNT := Lib.hid hno
          have HTE := Lib.hid hT
          clear eo hno hT hb
          by_cases hcv : CovN S (mask (natInts T))
          · have hdc := Lib.hid (dec_true hcv)
            have HCV : Hid (CvS g S (natInts T)) := Lib.hid (by
              have hii : i < (setsL g.length k).length := by rw [← HLE.out]; exact hlt
              have e1 : (setsL g.length k)[i] = T := by rw [HTE.out]; simp only [HLE.out]
              refine .inl ⟨Hok.out, .inl ⟨mask (natInts T), ?_, ?_⟩⟩
              · have h := first_least (P := CovN S) h16 HNO.out hii (by rw [e1]; exact hcv) (fun j hj hji => by
                  have hj2 : j < L.length := by rw [HLE.out]; exact hj
                  have := HNB.out j hj2 hji
                  simp only [HLE.out] at this
                  exact this)
                rw [e1] at h; exact h
              · have hc := (mem_setsL k T).1 (by rw [← e1]; exact List.getElem_mem hii)
                rw [cand_bitsM h16 hc])
            clear hcv
            go_wp2_with (go_at_call 55; refine (l11Meets_any _ _ T S hT16 few _ HNT.out (HS2.out.below HBX.out)).mono ?_; rintro e w6 ⟨he6, hb6⟩; rw [hdc.out] at he6; subst he6; have hco6 := hb6.at' hco; have HNT6 := Lib.hid (HNT.out.below hb6); have HB6 := Lib.hid (HBX.out.trans (hb6.mono HBX.out.size)); clear hb6)
            go_ret
            exact ⟨_, natInts T, rfl, HCV.out, by rw [natInts_length]; omega, HNT6.out, HB2.out.trans (HB6.out.mono HB2.out.size)⟩
          · have hdc := Lib.hid (dec_false hcv)
            have HCV := Lib.hid hcv
            clear hcv
            go_wp2_with (go_at_call 55; refine (l11Meets_any _ _ T S hT16 few _ HNT.out (HS2.out.below HBX.out)).mono ?_; rintro e w6 ⟨he6, hb6⟩; rw [hdc.out] at he6; subst he6; have HBK := Lib.hid (HBB.out.trans (hb6.mono HBB.out.size)); clear hb6)
            go_roundw
            case rel => exact ⟨i + 1, by omega, by go_num, Lib.hid (fun j h hj => by
              by_cases e : j < i
              · exact HNB.out j h e
              · obtain rfl : j = i := by omega
                rw [← HTE.out]; exact HCV.out), HBK.out⟩
            case measure => simp [intOf]; omega
        · obtain rfl : i = L.length := by omega
          have HNO2 : Hid (∀ m, m < k + 1 → ∀ T ∈ setsL g.length m, ¬ CovN S (mask (natInts T))) := Lib.hid (fun m hm T hT => by
            by_cases e : m < k
            · exact HNO.out m e T hT
            · obtain rfl : m = k := by omega
              rw [← HLE.out] at hT
              obtain ⟨j, hj, rfl⟩ := List.getElem_of_mem hT
              exact HNB.out j hj hj)
          clear hb
          go_wp2_with fail
          go_roundw
          case rel => exact ⟨k + 1, by omega, by go_num, HNO2, HBX.out⟩
          case measure => simp [intOf]; omega
    · obtain rfl : k = g.length + 1 := by omega
      have hli : ¬ ((g.length + 1 : Nat) : Int) ≤ (g.length : Int) := by omega
      have HC : Hid (CvS g S []) := Lib.hid (.inl ⟨Hok.out, .inr ⟨none_all h16 HNO.out, rfl⟩⟩)
      clear hb
      go_wp2_with (go_at_call 53; refine (l1Size_any _ g _ (HG2.out.below HB.out)).mono ?_; rintro e w3 ⟨rfl, hb3⟩; have HB3 := Lib.hid (HB.out.trans (hb3.mono HB.out.size)); clear hb3)
      go_ret
      exact ⟨_, [], rfl, HC.out, by simp, Sl.nothing _ _ _ _ (by simp), (HB2.out.trans (HB3.out.mono HB2.out.size)).alloc (Nat.le_trans HB2.out.size HB3.out.size) _⟩

end Go.Proofs.YtihlcmenfopaiaaDoor
