/- Walk: the program's search of a model, recursive on the block of the search (printed by wip/mkMiJ.py). -/
import Derived.Test.YtmakhapdlkbbnaaDoorMiQ29
namespace Go.Proofs.YtmakhapdlkbbnaaDoor
open Go.RowKit

set_option maxRecDepth 100000 in
set_option maxHeartbeats 4000000 in
theorem minGrow_any {w0 : World} {xb sb n m : Nat} {hv : Value} {pp wp np : Option Addr} {pc wc nc nN : Nat} {E F : Nat → Nat → Bool} {NR : List Nat} (H : MsH w0 xb sb n m hv pp wp np pc wc nc nN E F NR)
    (hE : ∀ x y, E x y = true → E y x = true) (hF : ∀ i k, F i k = F k i) (hFi : ∀ i, F i i = false) : ∀ (r : Nat) (wd : List Nat) (zv ze : Int) (w : World), zv = wd.length → wd.length + r = n → ze = lackW m wd → MsI w0 sb m w (mskW m wd) →
    Calls Tryd.prog 194 #[.pointer (some ⟨xb, 0, none⟩), .int .i64 zv, .int .i64 ze] w fun e w' => e = .returned (.bool (findN m (FitW m E F) r wd).isSome) ∧ MsI w0 sb m w' (mskW m ((findN m (FitW m E F) r wd).getD wd)) := by
  intro r
  have HH := Lib.hid H
  have HE := Lib.hid hE
  have HF := Lib.hid hF
  have HFI := Lib.hid hFi
  have n8 := H.n8
  have m8 := H.m8
  obtain ⟨hp, hc, ehv⟩ := H.hl
  subst ehv
  clear H hE hF hFi
  induction r using Nat.strongRecOn with
  | ind r ih =>
  intro wd zv ze w hzv hlen hze hI
  obtain ⟨v, hvl⟩ : ∃ v, v = wd.length := ⟨_, rfl⟩
  obtain ⟨em, hem⟩ : ∃ em, em = lackW m wd := ⟨_, rfl⟩
  have hem8 : em ≤ m := by rw [hem]; exact lackW_le m wd
  rw [← hvl] at hzv hlen
  rw [← hem] at hze
  subst hzv
  subst hze
  have IH := Lib.hid ih
  have HV := Lib.hid hvl
  have HEM := Lib.hid hem
  have HI := Lib.hid hI
  have c0 := (HH.out.blk.to (hI.block HH.out.blk.lt HH.out.ne)).c0
  have hwr : IntKind.i64.wrap ((n : Int) - (v : Int)) = (r : Int) := by rw [IntKind.wrap_i64]; omega
  clear ih hvl hem hI
  by_cases hlk : r < em
  · have HR := Lib.hid (findN_lack (Fit := FitW m E F) (show r < lackW m wd by rw [← HEM.out]; exact hlk))
    have hgt : (r : Int) < (em : Int) := by omega
    go_enter Tryd.func194, Tryd.ntmps194
    go_wp2_with fail
    go_ret
    exact ⟨by rw [HR.out]; rfl, by rw [HR.out]; exact HI.out⟩
  have hgt : ¬ (r : Int) < (em : Int) := by omega
  have HLK0 : Hid (¬ r < lackW m wd) := Lib.hid (by rw [← HEM.out]; exact hlk)
  by_cases hr0 : r = 0
  · subst hr0
    obtain rfl : v = n := by omega
    have HR := Lib.hid (findN_leaf (Fit := FitW m E F) HLK0.out)
    go_enter Tryd.func194, Tryd.ntmps194
    go_wp2_with (go_at_call 220; refine (minFits_any HH.out HE.out HF.out HFI.out wd HV.out.symm HI.out).mono ?_; rintro e w2 ⟨he, hb2⟩; subst he)
    go_ret
    rw [HR.out]
    by_cases hf : FitW m E F wd
    · rw [dec_true hf]; exact ⟨rfl, HI.out.next hb2⟩
    · rw [dec_false hf]; exact ⟨rfl, HI.out.next hb2⟩
  obtain ⟨r', rfl⟩ : ∃ r', r = r' + 1 := ⟨r - 1, by omega⟩
  have HLK := HLK0
  have hvn : ((v : Int) == (n : Int)) = false := beq_eq_false_iff_ne.2 (by omega)
  have hw1 : IntKind.i64.wrap ((v : Int) + 1) = (v : Int) + 1 := by rw [IntKind.wrap_i64]; omega
  have HL0 : Hid (lackW m (wd ++ [0]) = em) := Lib.hid (by rw [lackW_old (.inl rfl)]; exact HEM.out.symm)
  have HI0 : Hid (MsI w0 sb m w (mskW m (wd ++ [0]))) := Lib.hid (by rw [mskW_snoc_zero]; exact HI.out)
  obtain ⟨o, ho⟩ : ∃ o, findN m (FitW m E F) r' (wd ++ [0]) = o := ⟨_, rfl⟩
  have HO := Lib.hid ho
  clear ho hr0 hlk
  cases o with
  | some y =>
    have HR : Hid (findN m (FitW m E F) (r' + 1) wd = some y) := Lib.hid (by rw [findN_node HLK.out]; exact fsome_stop (k := 0) (by simp) (by omega) HO.out)
    go_enter Tryd.func194, Tryd.ntmps194
    go_wp2_with (go_at_call 194; refine (IH.out r' (by omega) (wd ++ [0]) _ _ _ (by rw [List.length_append]; have := HV.out; simp; omega) (by rw [List.length_append]; have := HV.out; simp; omega) (by rw [HL0.out]) HI0.out).mono ?_; rintro e w6 ⟨he6, hm6⟩; rw [HO.out] at he6 hm6; replace he6 : e = .returned (.bool true) := he6; subst he6; have HM6 : Hid (MsI w0 sb m w6 (mskW m y)) := Lib.hid hm6; clear hm6)
    go_ret
    exact ⟨by rw [HR.out]; rfl, by rw [HR.out]; exact HM6.out⟩
  | none =>
  have HN0 : Hid ((List.range (0 + 1)).findSome? (fun k => findN m (FitW m E F) r' (wd ++ [k])) = none) := Lib.hid (fsome_skip (k := 0) (by simp) HO.out)
  go_enter Tryd.func194, Tryd.ntmps194
  go_upto_region 7 with (go_at_call 194; refine (IH.out r' (by omega) (wd ++ [0]) _ _ _ (by rw [List.length_append]; have := HV.out; simp; omega) (by rw [List.length_append]; have := HV.out; simp; omega) (by rw [HL0.out]) HI0.out).mono ?_; rintro e w6 ⟨he6, hm6⟩; rw [HO.out] at he6 hm6; replace he6 : e = .returned (.bool false) := he6; subst he6; have HM6 : Hid (MsI w0 sb m w6 (mskW m wd)) := Lib.hid (by rw [← mskW_snoc_zero m wd]; exact hm6); clear hm6)
  have c4 := (HH.out.blk.to (HM6.out.block HH.out.blk.lt HH.out.ne)).c4
  clear c0 HO hwr hgt hvn
  go_wp2_with fail
  go_loopw [38] (fun iv wr => ∃ i : Nat, i ≤ m ∧ iv = .int .i64 i ∧ Hid ((List.range (i + 1)).findSome? (fun k => findN m (FitW m E F) r' (wd ++ [k])) = none) ∧ MsI w0 sb m wr (mskW m wd)) (fun iv _ => m - (intOf iv).toNat)
  case atStart => exact ⟨0, Nat.zero_le _, rfl, HN0.out |> Lib.hid, HM6.out⟩
  case round =>
    clear c4
    obtain ⟨i, hi, rfl, HNO, hmi⟩ := hrel
    by_cases hlt : i < m
    · have c4 := (HH.out.blk.to (hmi.block HH.out.blk.lt HH.out.ne)).c4
      have hci := hmi.cell hlt
      have hfi := hmi.frz i
      obtain ⟨b, hb⟩ : ∃ b, b = (mskW m wd).getD i 0 := ⟨_, rfl⟩
      rw [← hb] at hci
      have hb16 : b < 65536 := by rw [hb]; exact mskW_lt16 (by have := HV.out; omega)
      have hv32 : v < 32 := by omega
      have h2v := pow_lt32 v hv32
      have hl := lackW_put wd hlt
      rw [← hb, ← HEM.out] at hl
      have ONE := Lib.hid (fun w => one_any (v : Int) v rfl hv32 w)
      obtain ⟨t, ht⟩ : ∃ t, t = 2 ^ v := ⟨_, rfl⟩
      rw [← ht] at h2v ONE
      have hor := u32_or_nat b t (by omega) (by omega)
      obtain ⟨x, hx⟩ : ∃ x, x = b ||| t := ⟨_, rfl⟩
      rw [← hx] at hor
      have HPUT : Hid (mskW m (wd ++ [i + 1]) = (mskW m wd).set i x) := Lib.hid (by rw [mskW_put wd hlt, hx, ht, hb, HV.out])
      have HSB : Hid (((mskW m wd).set i x).set i b = mskW m wd) := Lib.hid (by rw [hb]; exact set_back _ i x 0 (by rw [mskW_length]; exact hlt))
      have HMI := Lib.hid hmi
      have HL := Lib.hid hl
      clear hmi hb hl ht hx
      by_cases hb0 : b = 0
      · have hz : ((b : Int) == 0) = true := by rw [hb0]; rfl
        have HLZ : Hid (((em : Int) - 1) = (lackW m (wd ++ [i + 1]) : Int)) := Lib.hid (by have := HL.out.1 hb0; omega)
        have hwe : IntKind.i64.wrap ((em : Int) - 1) = (em : Int) - 1 := by rw [IntKind.wrap_i64]; omega
        clear hb0
        have HMX : Hid (∀ wx : World, wx = wr.setCell ⟨sb, i, none⟩ (.int .u32 (x : Int)) → MsI w0 sb m wx (mskW m (wd ++ [i + 1]))) := Lib.hid (fun wx e => by rw [e, HPUT.out]; exact HMI.out.put i x)
        go_upto_region 14 with fail
        go_cut [63] (fun s63 wx => MsI w0 sb m wx (mskW m (wd ++ [i + 1])))
        case first =>
          go_region_law (first | (go_simp; go_at_call 135; refine (ONE.out _).mono ?_; rintro e w5 ⟨he5, hw5⟩; subst he5; subst hw5))
          all_goals go_wp2
          all_goals go_meet
          all_goals exact (HMX.out _ rfl).next (below_dN (Below.refl _ _) _)
        case rest =>
        have HMC := Lib.hid hcut
        clear hcut c4 hci hfi hor
        obtain ⟨o, ho⟩ : ∃ o, findN m (FitW m E F) r' (wd ++ [i + 1]) = o := ⟨_, rfl⟩
        have HO := Lib.hid ho
        clear ho
        cases o with
        | some y =>
          have HR : Hid (findN m (FitW m E F) (r' + 1) wd = some y) := Lib.hid (by rw [findN_node HLK.out]; exact fsome_stop HNO.out (by omega) HO.out)
          go_wp2_with (go_at_call 194; refine (IH.out r' (by omega) (wd ++ [i + 1]) _ _ _ (by rw [List.length_append]; have := HV.out; simp; omega) (by rw [List.length_append]; have := HV.out; simp; omega) (by first | exact HLZ.out | (rw [← HLZ.out]; first | rfl | omega)) HMC.out).mono ?_; rintro e w6 ⟨he6, hm6⟩; rw [HO.out] at he6 hm6; replace he6 : e = .returned (.bool true) := he6; subst he6; have HM6 : Hid (MsI w0 sb m w6 (mskW m y)) := Lib.hid hm6; clear hm6)
          go_ret
          exact ⟨by rw [HR.out]; rfl, by rw [HR.out]; exact HM6.out⟩
        | none =>
          have HNO2 : Hid ((List.range (i + 1 + 1)).findSome? (fun k => findN m (FitW m E F) r' (wd ++ [k])) = none) := Lib.hid (fsome_skip HNO.out HO.out)
          go_upto_region 17 with (go_at_call 194; refine (IH.out r' (by omega) (wd ++ [i + 1]) _ _ _ (by rw [List.length_append]; have := HV.out; simp; omega) (by rw [List.length_append]; have := HV.out; simp; omega) (by first | exact HLZ.out | (rw [← HLZ.out]; first | rfl | omega)) HMC.out).mono ?_; rintro e w6 ⟨he6, hm6⟩; rw [HO.out] at he6 hm6; replace he6 : e = .returned (.bool false) := he6; subst he6; have HM6 : Hid (MsI w0 sb m w6 (mskW m (wd ++ [i + 1]))) := Lib.hid hm6; clear hm6)
          have c4 := (HH.out.blk.to (HM6.out.block HH.out.blk.lt HH.out.ne)).c4
          have hfi := HM6.out.frz i
          have hci := HM6.out.cell hlt
          have HBK : Hid (MsI w0 sb m (w6.setCell ⟨sb, i, none⟩ (.int .u32 (b : Int))) (mskW m wd)) := Lib.hid (by
            have h1 := HM6.out.put i b
            rw [HPUT.out, HSB.out] at h1
            exact h1)
          go_wp2_with fail
          go_roundw
          case rel => exact ⟨i + 1, by omega, by go_num, HNO2, HBK.out⟩
          case measure => simp [intOf]; omega
      · have hz : ((b : Int) == 0) = false := beq_eq_false_iff_ne.2 (by omega)
        have HLZ : Hid ((em : Int) = (lackW m (wd ++ [i + 1]) : Int)) := Lib.hid (by have := HL.out.2 hb0; omega)
        clear hb0
        have HMX : Hid (∀ wx : World, wx = wr.setCell ⟨sb, i, none⟩ (.int .u32 (x : Int)) → MsI w0 sb m wx (mskW m (wd ++ [i + 1]))) := Lib.hid (fun wx e => by rw [e, HPUT.out]; exact HMI.out.put i x)
        go_upto_region 14 with fail
        go_cut [63] (fun s63 wx => MsI w0 sb m wx (mskW m (wd ++ [i + 1])))
        case first =>
          go_region_law (first | (go_simp; go_at_call 135; refine (ONE.out _).mono ?_; rintro e w5 ⟨he5, hw5⟩; subst he5; subst hw5))
          all_goals go_wp2
          all_goals go_meet
          all_goals exact (HMX.out _ rfl).next (below_dN (Below.refl _ _) _)
        case rest =>
        have HMC := Lib.hid hcut
        clear hcut c4 hci hfi hor
        obtain ⟨o, ho⟩ : ∃ o, findN m (FitW m E F) r' (wd ++ [i + 1]) = o := ⟨_, rfl⟩
        have HO := Lib.hid ho
        clear ho
        cases o with
        | some y =>
          have HR : Hid (findN m (FitW m E F) (r' + 1) wd = some y) := Lib.hid (by rw [findN_node HLK.out]; exact fsome_stop HNO.out (by omega) HO.out)
          go_wp2_with (go_at_call 194; refine (IH.out r' (by omega) (wd ++ [i + 1]) _ _ _ (by rw [List.length_append]; have := HV.out; simp; omega) (by rw [List.length_append]; have := HV.out; simp; omega) (by first | exact HLZ.out | (rw [← HLZ.out]; first | rfl | omega)) HMC.out).mono ?_; rintro e w6 ⟨he6, hm6⟩; rw [HO.out] at he6 hm6; replace he6 : e = .returned (.bool true) := he6; subst he6; have HM6 : Hid (MsI w0 sb m w6 (mskW m y)) := Lib.hid hm6; clear hm6)
          go_ret
          exact ⟨by rw [HR.out]; rfl, by rw [HR.out]; exact HM6.out⟩
        | none =>
          have HNO2 : Hid ((List.range (i + 1 + 1)).findSome? (fun k => findN m (FitW m E F) r' (wd ++ [k])) = none) := Lib.hid (fsome_skip HNO.out HO.out)
          go_upto_region 17 with (go_at_call 194; refine (IH.out r' (by omega) (wd ++ [i + 1]) _ _ _ (by rw [List.length_append]; have := HV.out; simp; omega) (by rw [List.length_append]; have := HV.out; simp; omega) (by first | exact HLZ.out | (rw [← HLZ.out]; first | rfl | omega)) HMC.out).mono ?_; rintro e w6 ⟨he6, hm6⟩; rw [HO.out] at he6 hm6; replace he6 : e = .returned (.bool false) := he6; subst he6; have HM6 : Hid (MsI w0 sb m w6 (mskW m (wd ++ [i + 1]))) := Lib.hid hm6; clear hm6)
          have c4 := (HH.out.blk.to (HM6.out.block HH.out.blk.lt HH.out.ne)).c4
          have hfi := HM6.out.frz i
          have hci := HM6.out.cell hlt
          have HBK : Hid (MsI w0 sb m (w6.setCell ⟨sb, i, none⟩ (.int .u32 (b : Int))) (mskW m wd)) := Lib.hid (by
            have h1 := HM6.out.put i b
            rw [HPUT.out, HSB.out] at h1
            exact h1)
          go_wp2_with fail
          go_roundw
          case rel => exact ⟨i + 1, by omega, by go_num, HNO2, HBK.out⟩
          case measure => simp [intOf]; omega
    · obtain rfl : i = m := by omega
      have HR : Hid (findN i (FitW i E F) (r' + 1) wd = none) := Lib.hid (by rw [findN_node HLK.out]; exact HNO.out)
      have HMI := Lib.hid hmi
      clear hmi
      go_wp2_with fail
      go_ret
      exact ⟨by rw [HR.out]; rfl, by rw [HR.out]; exact HMI.out⟩

end Go.Proofs.YtmakhapdlkbbnaaDoor
