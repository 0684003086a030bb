/- Walk: the program's search of a model, recursive on the block of the search (printed by wip/mkMiJ.py). -/
import Derived.Test.YtmakhapdlkbbnaaDoorMnQ20
import Derived.Test.YtmakhapdlkbbnaaDoorMnQ2
import Derived.Deep.RegionHeld
import Derived.Deep.RegionLaw
namespace Go.Proofs.YtmakhapdlkbbnaaDoor
open Go.RowKit

set_option maxRecDepth 100000 in
set_option maxHeartbeats 4000000 in
theorem minGrow_any {w0 : World} {xb sb n m : Nat} {hv : Value} {pp wp np : Option Addr} {pc wc nc nN : Nat} {E F : Nat → Nat → Bool} {NR : List Nat} (H : MsH w0 xb sb n m hv pp wp np pc wc nc nN E F NR)
    (hE : ∀ x y, E x y = true → E y x = true) (hF : ∀ i k, F i k = F k i) (hFi : ∀ i, F i i = false) : ∀ (r : Nat) (wd : List Nat) (zv ze : Int) (w : World), zv = wd.length → wd.length + r = n → ze = lackW m wd → MsI w0 sb m w (mskW m wd) →
    Calls Tryd.prog 194 #[.pointer (some ⟨xb, 0, none⟩), .int .i64 zv, .int .i64 ze] w fun e w' => e = .returned (.bool (findN m (FitW m E F) r wd).isSome) ∧ MsI w0 sb m w' (mskW m ((findN m (FitW m E F) r wd).getD wd)) := by
  intro r
  have HH := Lib.hid H
  have HE := Lib.hid hE
  have HF := Lib.hid hF
  have HFI := Lib.hid hFi
  have n8 := H.n8
  have m8 := H.m8
  obtain ⟨hp, hc, ehv⟩ := H.hl
  subst ehv
  clear H hE hF hFi
  induction r using Nat.strongRecOn with
  | ind r ih =>
  intro wd zv ze w hzv hlen hze hI
  obtain ⟨v, hvl⟩ : ∃ v, v = wd.length := ⟨_, rfl⟩
  obtain ⟨em, hem⟩ : ∃ em, em = lackW m wd := ⟨_, rfl⟩
  have hem8 : em ≤ m := by rw [hem]; exact lackW_le m wd
  rw [← hvl] at hzv hlen
  rw [← hem] at hze
  subst hzv
  subst hze
  have IH := Lib.hid ih
  have HV := Lib.hid hvl
  have HEM := Lib.hid hem
  have HI := Lib.hid hI
  have c0 := (HH.out.blk.to (hI.block HH.out.blk.lt HH.out.ne)).c0
  have hwr : IntKind.i64.wrap ((n : Int) - (v : Int)) = (r : Int) := by rw [IntKind.wrap_i64]; omega
  clear ih hvl hem hI
  by_cases hlk : r < em
  · have HR := Lib.hid (findN_lack (Fit := FitW m E F) (show r < lackW m wd by rw [← HEM.out]; exact hlk))
    have hgt : (r : Int) < (em : Int) := by omega
    go_enter Tryd.func194, Tryd.ntmps194
    go_wp2_with fail
    go_ret
    exact ⟨by rw [HR.out]; rfl, by rw [HR.out]; exact HI.out⟩
  have hgt : ¬ (r : Int) < (em : Int) := by omega
  have HLK0 : Hid (¬ r < lackW m wd) := Lib.hid (by rw [← HEM.out]; exact hlk)
  by_cases hr0 : r = 0
  · subst hr0
    obtain rfl : v = n := by omega
    have HR := Lib.hid (findN_leaf (Fit := FitW m E F) HLK0.out)
    go_enter Tryd.func194, Tryd.ntmps194
    go_wp2_with (go_at_call 220; refine (minFits_any HH.out HE.out HF.out HFI.out wd HV.out.symm HI.out).mono ?_; rintro e w2 ⟨he, hb2⟩; subst he)
    go_ret
    rw [HR.out]
    by_cases hf : FitW m E F wd
    · rw [dec_true hf]; exact ⟨rfl, HI.out.next hb2⟩
    · rw [dec_false hf]; exact ⟨rfl, HI.out.next hb2⟩
  obtain ⟨r', rfl⟩ : ∃ r', r = r' + 1 := ⟨r - 1, by omega⟩
  have HLK := HLK0
  have hvn : ((v : Int) == (n : Int)) = false := beq_eq_false_iff_ne.2 (by omega)
  have hw1 : IntKind.i64.wrap ((v : Int) + 1) = (v : Int) + 1 := by rw [IntKind.wrap_i64]; omega
  have HL0 : Hid (lackW m (wd ++ [0]) = em) := Lib.hid (by rw [lackW_old (.inl rfl)]; exact HEM.out.symm)
  have HI0 : Hid (MsI w0 sb m w (mskW m (wd ++ [0]))) := Lib.hid (by rw [mskW_snoc_zero]; exact HI.out)
  obtain ⟨o, ho⟩ : ∃ o, findN m (FitW m E F) r' (wd ++ [0]) = o := ⟨_, rfl⟩
  have HO := Lib.hid ho
  clear ho hr0 hlk
  cases o with
  | some y =>
    have HR : Hid (findN m (FitW m E F) (r' + 1) wd = some y) := Lib.hid (by rw [findN_node HLK.out]; exact fsome_stop (k := 0) (by simp) (by omega) HO.out)
    go_enter Tryd.func194, Tryd.ntmps194
    go_wp2_with (go_at_call 194; refine (IH.out r' (by omega) (wd ++ [0]) _ _ _ (by rw [List.length_append]; have := HV.out; simp; omega) (by rw [List.length_append]; have := HV.out; simp; omega) (by rw [HL0.out]) HI0.out).mono ?_; rintro e w6 ⟨he6, hm6⟩; rw [HO.out] at he6 hm6; replace he6 : e = .returned (.bool true) := he6; subst he6; have HM6 : Hid (MsI w0 sb m w6 (mskW m y)) := Lib.hid hm6; clear hm6)
    go_ret
    exact ⟨by rw [HR.out]; rfl, by rw [HR.out]; exact HM6.out⟩
  | none =>
  have HN0 : Hid ((List.range (0 + 1)).findSome? (fun k => findN m (FitW m E F) r' (wd ++ [k])) = none) := Lib.hid (fsome_skip (k := 0) (by simp) HO.out)
  go_enter Tryd.func194, Tryd.ntmps194
  go_upto_region 7 with (go_at_call 194; refine (IH.out r' (by omega) (wd ++ [0]) _ _ _ (by rw [List.length_append]; have := HV.out; simp; omega) (by rw [List.length_append]; have := HV.out; simp; omega) (by rw [HL0.out]) HI0.out).mono ?_; rintro e w6 ⟨he6, hm6⟩; rw [HO.out] at he6 hm6; replace he6 : e = .returned (.bool false) := he6; subst he6; have HM6 : Hid (MsI w0 sb m w6 (mskW m wd)) := Lib.hid (by rw [← mskW_snoc_zero m wd]; exact hm6); clear hm6)
  have c4 := (HH.out.blk.to (HM6.out.block HH.out.blk.lt HH.out.ne)).c4
  clear c0 HO hwr hgt hvn
  go_wp2_with fail
  go_loopw [38] (fun iv wr => ∃ i : Nat, i ≤ m ∧ iv = .int .i64 i ∧ Hid ((List.range (i + 1)).findSome? (fun k => findN m (FitW m E F) r' (wd ++ [k])) = none) ∧ MsI w0 sb m wr (mskW m wd)) (fun iv _ => m - (intOf iv).toNat)
  case atStart => exact ⟨0, Nat.zero_le _, rfl, HN0.out |> Lib.hid, HM6.out⟩
  case round =>
    clear c4
    obtain ⟨i, hi, rfl, HNO, hmi⟩ := hrel
    by_cases hlt : i < m
    · have c4 := (HH.out.blk.to (hmi.block HH.out.blk.lt HH.out.ne)).c4
      have hci := hmi.cell hlt
      have hfi := hmi.frz i
      obtain ⟨b, hb⟩ : ∃ b, b = (mskW m wd).getD i 0 := ⟨_, rfl⟩
      rw [← hb] at hci
      have hb16 : b < 65536 := by rw [hb]; exact mskW_lt16 (by have := HV.out; omega)
      have hv32 : v < 32 := by omega
      have h2v := pow_lt32 v hv32
      have hl := lackW_put wd hlt
      rw [← hb, ← HEM.out] at hl
      have ONE := Lib.hid (fun w => one_any (v : Int) v rfl hv32 w)
      obtain ⟨t, ht⟩ : ∃ t, t = 2 ^ v := ⟨_, rfl⟩
      rw [← ht] at h2v ONE
      have hor := u32_or_nat b t (by omega) (by omega)
      obtain ⟨x, hx⟩ : ∃ x, x = b ||| t := ⟨_, rfl⟩
      rw [← hx] at hor
      have HPUT : Hid (mskW m (wd ++ [i + 1]) = (mskW m wd).set i x) := Lib.hid (by rw [mskW_put wd hlt, hx, ht, hb, HV.out])
      have HSB : Hid (((mskW m wd).set i x).set i b = mskW m wd) := Lib.hid (by rw [hb]; exact set_back _ i x 0 (by rw [mskW_length]; exact hlt))
      have HMI := Lib.hid hmi
      have HL := Lib.hid hl
      clear hmi hb hl ht hx
      by_cases hb0 : b = 0
      · have hz : ((b : Int) == 0) = true := by rw [hb0]; rfl
        have HLZ : Hid (((em : Int) - 1) = (lackW m (wd ++ [i + 1]) : Int)) := Lib.hid (by have := HL.out.1 hb0; omega)
        have hwe : IntKind.i64.wrap ((em : Int) - 1) = (em : Int) - 1 := by rw [IntKind.wrap_i64]; omega
        clear hb0
        have HMX : Hid (∀ wx : World, wx = wr.setCell ⟨sb, i, none⟩ (.int .u32 (x : Int)) → MsI w0 sb m wx (mskW m (wd ++ [i + 1]))) := Lib.hid (fun wx e => by rw [e, HPUT.out]; exact HMI.out.put i x)
        go_upto_region 14 with fail
        go_cut [63] (fun s63 wx => MsI w0 sb m wx (mskW m (wd ++ [i + 1])))
        case first =>
          go_region_law (first | (go_simp; go_at_call 135; refine (ONE.out _).mono ?_; rintro e w5 ⟨he5, hw5⟩; subst he5; subst hw5))
          all_goals go_wp2
          all_goals go_meet
          all_goals exact (HMX.out _ rfl).next (below_dN (Below.refl _ _) _)
        case rest =>
        have HMC := Lib.hid hcut
        clear hcut c4 hci hfi hor
        obtain ⟨o, ho⟩ : ∃ o, findN m (FitW m E F) r' (wd ++ [i + 1]) = o := ⟨_, rfl⟩
        have HO := Lib.hid ho
        clear ho
        cases o with
        | some y =>
          have HR : Hid (findN m (FitW m E F) (r' + 1) wd = some y) := Lib.hid (by rw [findN_node HLK.out]; exact fsome_stop HNO.out (by omega) HO.out)
          go_wp2_with (go_at_call 194; refine (IH.out r' (by omega) (wd ++ [i + 1]) _ _ _ (by rw [List.length_append]; have := HV.out; simp; omega) (by rw [List.length_append]; have := HV.out; simp; omega) (by first | exact HLZ.out | (rw [← HLZ.out]; first | rfl | omega)) HMC.out).mono ?_; rintro e w6 ⟨he6, hm6⟩; rw [HO.out] at he6 hm6; replace he6 : e = .returned (.bool true) := he6; subst he6; have HM6 : Hid (MsI w0 sb m w6 (mskW m y)) := Lib.hid hm6; clear hm6)
          go_ret
          exact ⟨by rw [HR.out]; rfl, by rw [HR.out]; exact HM6.out⟩
        | none =>
          have HNO2 : Hid ((List.range (i + 1 + 1)).findSome? (fun k => findN m (FitW m E F) r' (wd ++ [k])) = none) := Lib.hid (fsome_skip HNO.out HO.out)
          go_upto_region 17 with (go_at_call 194; refine (IH.out r' (by omega) (wd ++ [i + 1]) _ _ _ (by rw [List.length_append]; have := HV.out; simp; omega) (by rw [List.length_append]; have := HV.out; simp; omega) (by first | exact HLZ.out | (rw [← HLZ.out]; first | rfl | omega)) HMC.out).mono ?_; rintro e w6 ⟨he6, hm6⟩; rw [HO.out] at he6 hm6; replace he6 : e = .returned (.bool false) := he6; subst he6; have HM6 : Hid (MsI w0 sb m w6 (mskW m (wd ++ [i + 1]))) := Lib.hid hm6; clear hm6)
          have c4 := (HH.out.blk.to (HM6.out.block HH.out.blk.lt HH.out.ne)).c4
          have hfi := HM6.out.frz i
          have hci := HM6.out.cell hlt
          have HBK : Hid (MsI w0 sb m (w6.setCell ⟨sb, i, none⟩ (.int .u32 (b : Int))) (mskW m wd)) := Lib.hid (by
            have h1 := HM6.out.put i b
            rw [HPUT.out, HSB.out] at h1
            exact h1)
          go_wp2_with fail
          go_roundw
          case rel => exact ⟨i + 1, by omega, by go_num, HNO2, HBK.out⟩
          case measure => simp [intOf]; omega
      · have hz : ((b : Int) == 0) = false := beq_eq_false_iff_ne.2 (by omega)
        have HLZ : Hid ((em : Int) = (lackW m (wd ++ [i + 1]) : Int)) := Lib.hid (by have := HL.out.2 hb0; omega)
        clear hb0
        have HMX : Hid (∀ wx : World, wx = wr.setCell ⟨sb, i, none⟩ (.int .u32 (x : Int)) → MsI w0 sb m wx (mskW m (wd ++ [i + 1]))) := Lib.hid (fun wx e => by rw [e, HPUT.out]; exact HMI.out.put i x)
        go_upto_region 14 with fail
        go_cut [63] (fun s63 wx => MsI w0 sb m wx (mskW m (wd ++ [i + 1])))
        case first =>
          go_region_law (first | (go_simp; go_at_call 135; refine (ONE.out _).mono ?_; rintro e w5 ⟨he5, hw5⟩; subst he5; subst hw5))
          all_goals go_wp2
          all_goals go_meet
          all_goals exact (HMX.out _ rfl).next (below_dN (Below.refl _ _) _)
        case rest =>
        have HMC := Lib.hid hcut
        clear hcut c4 hci hfi hor
        obtain ⟨o, ho⟩ : ∃ o, findN m (FitW m E F) r' (wd ++ [i + 1]) = o := ⟨_, rfl⟩
        have HO := Lib.hid ho
        clear ho
        cases o with
        | some y =>
          have HR : Hid (findN m (FitW m E F) (r' + 1) wd = some y) := Lib.hid (by rw [findN_node HLK.out]; exact fsome_stop HNO.out (by omega) HO.out)
          go_wp2_with (go_at_call 194; refine (IH.out r' (by omega) (wd ++ [i + 1]) _ _ _ (by rw [List.length_append]; have := HV.out; simp; omega) (by rw [List.length_append]; have := HV.out; simp; omega) (by first | exact HLZ.out | (rw [← HLZ.out]; first | rfl | omega)) HMC.out).mono ?_; rintro e w6 ⟨he6, hm6⟩; rw [HO.out] at he6 hm6; replace he6 : e = .returned (.bool true) := he6; subst he6; have HM6 : Hid (MsI w0 sb m w6 (mskW m y)) := Lib.hid hm6; clear hm6)
          go_ret
          exact ⟨by rw [HR.out]; rfl, by rw [HR.out]; exact HM6.out⟩
        | none =>
          have HNO2 : Hid ((List.range (i + 1 + 1)).findSome? (fun k => findN m (FitW m E F) r' (wd ++ [k])) = none) := Lib.hid (fsome_skip HNO.out HO.out)
          go_upto_region 17 with (go_at_call 194; refine (IH.out r' (by omega) (wd ++ [i + 1]) _ _ _ (by rw [List.length_append]; have := HV.out; simp; omega) (by rw [List.length_append]; have := HV.out; simp; omega) (by first | exact HLZ.out | (rw [← HLZ.out]; first | rfl | omega)) HMC.out).mono ?_; rintro e w6 ⟨he6, hm6⟩; rw [HO.out] at he6 hm6; replace he6 : e = .returned (.bool false) := he6; subst he6; have HM6 : Hid (MsI w0 sb m w6 (mskW m (wd ++ [i + 1]))) := Lib.hid hm6; clear hm6)
          have c4 := (HH.out.blk.to (HM6.out.block HH.out.blk.lt HH.out.ne)).c4
          have hfi := HM6.out.frz i
          have hci := HM6.out.cell hlt
          have HBK : Hid (MsI w0 sb m (w6.setCell ⟨sb, i, none⟩ (.int .u32 (b : Int))) (mskW m wd)) := Lib.hid (by
            have h1 := HM6.out.put i b
            rw [HPUT.out, HSB.out] at h1
            exact h1)
          go_wp2_with fail
          go_roundw
          case rel => exact ⟨i + 1, by omega, by go_num, HNO2, HBK.out⟩
          case measure => simp [intOf]; omega
    · obtain rfl : i = m := by omega
      have HR : Hid (findN i (FitW i E F) (r' + 1) wd = none) := Lib.hid (by rw [findN_node HLK.out]; exact HNO.out)
      have HMI := Lib.hid hmi
      clear hmi
      go_wp2_with fail
      go_ret
      exact ⟨by rw [HR.out]; rfl, by rw [HR.out]; exact HMI.out⟩

end Go.Proofs.YtmakhapdlkbbnaaDoor

/- A region that draws its order, some of whose stores hit the cells that it loads: facts on the world, each of which holds until a named operation of the region has come up. -/
namespace Go.Proofs.YtmakhapdlkbbnaaDoor
open Go.RowKit

section
variable {P : Program} {ops : Array Oper} {Q : Exit → Act → World → Prop} {md : Region.Mode}

/-- Facts, each till the operation beside it has come up. -/
def Stg : List (Nat × (World → Prop)) → Array Bool → World → Prop
  | [], _, _ => True
  | f :: fs, l, w => (l.getD f.1 true = false → f.2 w) ∧ Stg fs l w
theorem Stg.nil {l : Array Bool} {w : World} : Stg [] l w := trivial
theorem Stg.keep {f : Nat × (World → Prop)} {fs : List (Nat × (World → Prop))} {l : Array Bool} {w : World} (h : f.2 w) (r : Stg fs l w) : Stg (f :: fs) l w := ⟨fun _ => h, r⟩
theorem Stg.skip {f : Nat × (World → Prop)} {fs : List (Nat × (World → Prop))} {l : Array Bool} {w : World} (h : l.getD f.1 true = true) (r : Stg fs l w) : Stg (f :: fs) l w := ⟨fun k => absurd (h.symm.trans k) (by decide), r⟩
theorem Stg.get : ∀ {fs : List (Nat × (World → Prop))} {l : Array Bool} {w : World} {m s : Nat} {F : World → Prop}, fs[m]? = some (s, F) → Stg fs l w → l.getD s true = false → F w
  | [], _, _, m, _, _, e, _, _ => by simp at e
  | f :: fs, _, _, 0, _, _, e, h, k => by
    simp only [List.getElem?_cons_zero, Option.some.injEq] at e
    subst e
    exact h.1 k
  | f :: fs, _, _, m + 1, _, _, e, h, k => Stg.get (fs := fs) (m := m) (by simpa using e) h.2 k
theorem Stg.set : ∀ {fs : List (Nat × (World → Prop))} {i : Nat} {l : Array Bool} {w : World}, ((fs.map (·.1)).all fun s => s != i) = true → (Stg fs (l.setIfInBounds i true) w ↔ Stg fs l w)
  | [], _, _, _, _ => Iff.rfl
  | f :: fs, i, l, w, h => by
    simp only [List.map_cons, List.all_cons, Bool.and_eq_true, bne_iff_ne] at h
    unfold Stg
    rw [getD_set_ne true (Ne.symm h.1), Stg.set h.2]

/-- Whatever order is picked from here on; behind each operation the facts hold that are still asked. -/
def wpStg (P : Program) (md : Region.Mode) (ops : Array Oper) (Q : Exit → Act → World → Prop) (fs : List (Nat × (World → Prop))) : Nat → Array Bool → Act → World → Prop
  | 0, l, a, w => Region.ready md ops l = [] ∧ Q .normal a w
  | fuel + 1, l, a, w =>
    (Region.ready md ops l = [] → Q .normal a w) ∧
      ∀ i ∈ Region.ready md ops l, wpOp P ops Q i (fun a' w' => Stg fs (l.setIfInBounds i true) w' ∧ wpStg P md ops Q fs fuel (l.setIfInBounds i true) a' w') a w
variable {fs : List (Nat × (World → Prop))}

theorem wpStg_any : ∀ (fuel : Nat) (l : Array Bool) (a : Act) (w : World), wpStg P md ops Q fs fuel l a w → wpAny P md ops Q fuel l a w
  | 0, _, _, _, h => h
  | fuel + 1, _, _, _, h => ⟨h.1, fun i hi => wpOp_mono (fun a' w' k => wpStg_any fuel _ a' w' k.2) (h.2 i hi)⟩

theorem not_ready_after {i s : Nat} {l : Array Bool} (hb : ((ops[s]?).map fun o => o.after.any fun e => Region.binds md e && e.on == i).getD false = true) (hi : l.getD i true = false) : s ∉ Region.ready md ops l := by
  intro h
  obtain ⟨_, o, ho, hall⟩ := mem_ready.1 h
  rw [ho] at hb
  simp only [Option.map_some, Option.getD_some, Array.any_eq_true'] at hb
  obtain ⟨e, he, hb⟩ := hb
  simp only [Bool.and_eq_true, beq_iff_eq] at hb
  have h2 := hall e he hb.1
  rw [hb.2] at h2
  rcases Nat.lt_or_ge i l.size with k | k
  · simp [k] at h2 hi; rw [hi] at h2; cases h2
  · simp [Array.getElem?_eq_none k] at h2

/-- An operation that yields its value wherever what is still asked holds may be taken first. -/
theorem wpStg_first {i : Nat} {oi : Oper} {v : Value} {F : World → Prop} (G : Array Bool → Prop) (hi : ops[i]? = some oi) (hsel : ∀ (j : Nat) (o : Oper) cs b, ops[j]? = some o → o.op ≠ .select cs b)
    (hQ : ∀ c a w, Q (.panic c) (a.put oi.dst v) w → Q (.panic c) a w) (hne : ((fs.map (·.1)).all fun s => s != i) = true)
    (hGs : ∀ l j, G l → l.getD i true = false → j ∈ Region.ready md ops l → j ≠ i → G (l.setIfInBounds j true)) (hGF : ∀ l w, G l → Stg fs l w → F w) :
    ∀ (fuel : Nat) (l : Array Bool) (a : Act) (w : World),
      (∀ j oj, ops[j]? = some oj → j ≠ i → l.getD j true = false → (∀ e ∈ oj.after, Region.binds md e = true → e.on ≠ i) → oi.apart ops oj = true) →
      i ∈ Region.ready md ops l → G l → YieldsIf P ops F oi v a → Stg fs l w →
      wpStg P md ops Q fs fuel (l.setIfInBounds i true) (a.put oi.dst v) w → wpStg P md ops Q fs (fuel + 1) l a w := by
  intro fuel
  induction fuel with
  | zero =>
    intro l a w _ hr hG hy hS H
    refine ⟨fun h => absurd (h ▸ hr) (by simp), fun j hj => ?_⟩
    by_cases e : j = i
    · subst e
      exact hy.wpOp hi (hGF l w hG hS) ⟨(Stg.set hne).2 hS, H⟩
    · have := ready_mono hj e
      rw [H.1] at this
      simp at this
  | succ fuel ih =>
    intro l a w hap hr hG hy hS H
    refine ⟨fun h => absurd (h ▸ hr) (by simp), fun j hj => ?_⟩
    by_cases e : j = i
    · subst e
      exact hy.wpOp hi (hGF l w hG hS) ⟨(Stg.set hne).2 hS, H⟩
    have hil := (mem_ready.1 hr).1
    obtain ⟨hjl, oj, hoj, hall⟩ := mem_ready.1 hj
    have hno : ∀ x ∈ oj.after, Region.binds md x = true → x.on ≠ i := fun x hx hb k => by
      refine not_ready_after (md := md) (ops := ops) (i := i) (s := j) (l := l) ?_ hil hj
      rw [hoj]
      simp only [Option.map_some, Option.getD_some, Array.any_eq_true']
      exact ⟨x, hx, by simp [hb, k]⟩
    have h2 := wpOp_putIf hoj (hap j oj hoj e hjl hno) (fun cs b => hsel i oi cs b hi) (fun cs b => hsel j oj cs b hoj) hQ hy (H.2 j (ready_mono hj e))
    refine wpOp_mono (fun a' w' h3 => ?_) h2
    obtain ⟨h4, h5, h6⟩ := h3
    rw [Array.setIfInBounds_comm _ _ (Ne.symm e)] at h5 h6
    have h7 := (Stg.set hne).1 h5
    refine ⟨h7, ih _ a' w' (fun k ok hk hki hun hnk => hap k ok hk hki ?_ hnk) (ready_mono hr (Ne.symm e)) (hGs l j hG hil hj e) h4 h7 h6⟩
    by_cases k2 : j = k
    · subst k2; exact hjl
    · rwa [getD_set_ne true k2] at hun

/-- A load is taken first: the store that ends its fact waits for it. -/
theorem wpStg_take {m i s : Nat} {oi : Oper} {v : Value} {F : World → Prop} {fuel : Nat} {l : Array Bool} {a : Act} {w : World} (hm : fs[m]? = some (s, F)) (hi : ops[i]? = some oi)
    (hs : Region.noSelect ops = true) (hf : Region.free md ops l i = true) (hr : (Region.ready md ops l).contains i = true)
    (hb : ((ops[s]?).map fun o => o.after.any fun e => Region.binds md e && e.on == i).getD false = true) (hl : l.getD s true = false) (hne : ((fs.map (·.1)).all fun s => s != i) = true)
    (hQ : ∀ c a w, Q (.panic c) (a.put oi.dst v) w → Q (.panic c) a w) (hy : YieldsIf P ops F oi v a) (hS : Stg fs l w)
    (h : wpStg P md ops Q fs fuel (l.setIfInBounds i true) (a.put oi.dst v) w) : wpStg P md ops Q fs (fuel + 1) l a w :=
  wpStg_first (fun l => l.getD s true = false) hi (Region.noSelect_spec hs) hQ hne
    (fun l j h1 h2 h3 _ => by rw [getD_set_ne true (fun e => not_ready_after hb h2 (by rw [← e]; exact h3))]; exact h1) (fun l w h1 h2 => Stg.get hm h2 h1) fuel l a w (Region.free_spec hi hf) (by simpa using hr) hl hy hS h
/-- What yields in whatever world is taken first. -/
theorem wpStg_pure {i : Nat} {oi : Oper} {v : Value} {fuel : Nat} {l : Array Bool} {a : Act} {w : World} (hi : ops[i]? = some oi)
    (hs : Region.noSelect ops = true) (hf : Region.free md ops l i = true) (hr : (Region.ready md ops l).contains i = true) (hne : ((fs.map (·.1)).all fun s => s != i) = true)
    (hQ : ∀ c a w, Q (.panic c) (a.put oi.dst v) w → Q (.panic c) a w) (hy : YieldsIf P ops (fun _ => True) oi v a) (hS : Stg fs l w)
    (h : wpStg P md ops Q fs fuel (l.setIfInBounds i true) (a.put oi.dst v) w) : wpStg P md ops Q fs (fuel + 1) l a w :=
  wpStg_first (fun _ => True) hi (Region.noSelect_spec hs) hQ hne (fun _ _ _ _ _ _ => trivial) (fun _ _ _ _ => trivial) fuel l a w (Region.free_spec hi hf) (by simpa using hr) trivial hy hS h

/-- Just one operation may come up: it is carried out. -/
theorem wpStg_one {i : Nat} {oi : Oper} {fuel : Nat} {l : Array Bool} {a : Act} {w : World} (hr : Region.ready md ops l = [i]) (hi : ops[i]? = some oi)
    (h : ∀ K' : Act → World → Prop, Shut (∀ a w, Stg fs (l.setIfInBounds i true) w → (Stg fs (l.setIfInBounds i true) w → wpStg P md ops Q fs fuel (l.setIfInBounds i true) a w) → K' a w) →
      if Region.wanted oi (yielded ops a.tmps) = true then Oper.wp P oi a w K' Q else K' (a.put oi.dst undef) w) : wpStg P md ops Q fs (fuel + 1) l a w := by
  refine ⟨fun h0 => ?_, fun j hj => ?_⟩
  · rw [hr] at h0; cases h0
  · rw [hr] at hj
    obtain rfl : j = i := by simpa using hj
    exact wpOp_step hi (fun K' hK => h K' (fun a w hS hW => hK a w ⟨hS, hW hS⟩))
theorem wpStg_done {l : Array Bool} {a : Act} {w : World} (hr : Region.ready md ops l = []) (h : Q .normal a w) : ∀ fuel, wpStg P md ops Q fs fuel l a w
  | 0 => ⟨hr, h⟩
  | _ + 1 => ⟨fun _ => h, by rw [hr]; simp⟩
theorem wp_region_stg {id : Nat} {a : Act} {w : World} (fs : List (Nat × (World → Prop))) (hm : P.follows .mixedOrders = true) (hS : Stg fs (Array.replicate ops.size false) w.drew)
    (h : Stg fs (Array.replicate ops.size false) w.drew → wpStg P .any ops Q fs ops.size (Array.replicate ops.size false) a w.drew) : (Code.region id ops true).wp P Q a w :=
  wp_region_any hm (wpStg_any _ _ _ _ (h hS))
end

/-- append as one operation of such a region; where the new row lies. -/
theorem step_app1f {P : Program} {T E : TypeId} {z : Value} {bytes : Nat} (S : SlTy P T E z 1 bytes) {w : World} {ops : Array Oper} {o : Oper} {a : Act} {K : Act → World → Prop} {Q : Exit → Act → World → Prop} {F : Prop}
    (hgd : o.guard = none) {s x : Operand} (ho : o.op = .call { callee := .builtin .append, args := #[s, x], argTypes := #[T, T] })
    {base : Nat} {v : Value} {n : Nat} {xs : List Value} {el : Value} (hs : a.eval s = v) (hown : w.ownsRow base E 1 v n xs)
    (hx : a.eval x = .slice (some ⟨w.heap.size, 0, none⟩) 1 1) (h1 : el.oneCell' = true)
    (hnm : n < 1000000000) (hbase : base ≤ w.heap.size)
    (h : ∀ b c w', w'.ownsRow base E 1 (.slice (some ⟨b, 0, none⟩) (n + 1) c) (n + 1) (xs ++ [el]) → w.grownBy w' v.ownBlock → (v.ownBlock = some b ∨ w.heap.size < b) → K (a.put o.dst (.slice (some ⟨b, 0, none⟩) (n + 1) c)) w') :
    if Region.wanted o (yielded ops a.tmps) = true then Oper.wp P o a (w.alloc (.cells #[el] E)) K Q else F := by
  have hw : Region.wanted o (yielded ops a.tmps) = true := by simp [Region.wanted, hgd]
  rw [if_pos hw]
  have hal := size_alloc w (.cells #[el] E)
  have hu : Sl (w.alloc (.cells #[el] E)) E (.slice (some ⟨w.heap.size, 0, none⟩) 1 1) 1 [el] := by
    refine ⟨_, 1, rfl, (fun e => by cases e), Nat.le_refl _, by omega, Or.inr ⟨w.heap.size, 0, #[el], (0, 0), rfl, heap_alloc_new w _, fun j u hu => ?_⟩⟩
    cases j with
    | zero => simpa using hu
    | succ j => simp at hu
  obtain ⟨v', w', hr, h2, h3, h4⟩ := run_app S (w.alloc (.cells #[el] E)) o.type base v n xs (hown.alloc _) _ 1 [el] hu (by simp) (by simpa using h1) (by omega) (by omega)
  unfold Oper.wp execOp
  simp only [ho, resolve, invoke, builtin, Sem.run_bind, Sem.run_pure, Result.andThen_ok, List.map_toArray, List.map_cons, List.map_nil, hs, hx, hr]
  rcases id h2.2 with ⟨_, h0⟩ | ⟨g, cap, cur, rfl, _⟩
  · omega
  · refine h g cap w' h2 ⟨h3.os, h3.tape, h3.output, by have := h3.size; omega, fun k hk hne => (h3.block k (by omega) hne).trans (Below.heap_alloc w _ k hk)⟩ ?_
    rcases h4 g rfl with h5 | h5
    · exact .inl h5
    · exact .inr (by omega)

end Go.Proofs.YtmakhapdlkbbnaaDoor
