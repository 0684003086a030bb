/- Walk: the law FnKnown. -/
import Derived.Test.YtkppbmfliejnmaaDoorKnQ39
import Derived.Test.YtkppbmfliejnmaaDoorKnQ42
import Derived.Test.YtkppbmfliejnmaaDoorKnQ31
import Derived.Test.YtkppbmfliejnmaaDoorKnQ43
namespace Go.Proofs.YtkppbmfliejnmaaDoor
open Go.RowKit

theorem kn_nums (k m d : Nat) (h1 : 4 ≤ k) (h2 : k ≤ 6) (hm : k * (k - 1) / 2 = m) (hd : (k - 2) * (k - 3) / 2 = d) : ∃ k1 k2 k3 P1 P2 : Int, IntKind.i64.wrap ((k : Int) - 1) = k1 ∧ IntKind.i64.wrap ((k : Int) * k1) = P1 ∧ Int.tdiv P1 2 = (m : Int) ∧ IntKind.i64.wrap ((k : Int) - 2) = k2 ∧ IntKind.i64.wrap ((k : Int) - 3) = k3 ∧ IntKind.i64.wrap (k2 * k3) = P2 ∧ Int.tdiv P2 2 = (d : Int) := by
  subst hm; subst hd
  obtain rfl | rfl | rfl : k = 4 ∨ k = 5 ∨ k = 6 := by omega
  · exact ⟨3, 2, 1, 12, 2, by rw [IntKind.wrap_i64]; rfl, by rw [IntKind.wrap_i64]; rfl, rfl, by rw [IntKind.wrap_i64]; rfl, by rw [IntKind.wrap_i64]; rfl, by rw [IntKind.wrap_i64]; rfl, rfl⟩
  · exact ⟨4, 3, 2, 20, 6, by rw [IntKind.wrap_i64]; rfl, by rw [IntKind.wrap_i64]; rfl, rfl, by rw [IntKind.wrap_i64]; rfl, by rw [IntKind.wrap_i64]; rfl, by rw [IntKind.wrap_i64]; rfl, rfl⟩
  · exact ⟨5, 4, 3, 30, 12, by rw [IntKind.wrap_i64]; rfl, by rw [IntKind.wrap_i64]; rfl, rfl, by rw [IntKind.wrap_i64]; rfl, by rw [IntKind.wrap_i64]; rfl, by rw [IntKind.wrap_i64]; rfl, rfl⟩

set_option maxRecDepth 100000 in
set_option maxHeartbeats 8000000 in
theorem lawKnown_any (v0 : Value) (bs : List Int) (W : World) (ha : ArgB W v0 bs) (hT : Tab W) :
    Calls Tryd.prog 8 #[v0] W fun e w' => e = .returned (.bool true) ∧ Below W.heap.size W w' := by
  obtain ⟨p, c, e0, _⟩ := id ha
  subst e0
  have HA := Lib.hid ha
  have HT := Lib.hid hT
  clear ha hT
  go_enter Tryd.func8, Tryd.ntmps8
  by_cases hbig : 4096 < bs.length
  · have hd := decide_eq_true hbig
    go_wp2_with (go_at_call 11; refine (big_any _ bs _ HA.out).mono ?_; rintro e w2 ⟨he, rfl⟩; rw [hd] at he; subst he)
    go_ret
    exact ⟨rfl, Below.refl _ _⟩
  have hd := decide_eq_false hbig
  have hl : bs.length ≤ 4096 := by omega
  clear hbig
  go_upto_region 4 with (first
    | (go_at_call 62; refine (drawDice_any _ bs hl _ HA.out).mono ?_; rintro e w2 ⟨x, y, z, rfl, hb2⟩)
    | (go_at_call 11; refine (big_any _ bs _ HA.out).mono ?_; rintro e w1 ⟨he, rfl⟩; rw [hd] at he; subst he))
  have HW2 := Lib.hid hb2
  have HT2 := Lib.hid (HT.out.keep hb2)
  clear hb2 hd
  obtain ⟨iv, sv, bd, HI, HS, HSAME⟩ : ∃ (ik : Nat) (sk : Nat) (bd : Bool), Hid (∀ wz, Tab wz → Calls Tryd.prog 63 #[.int .i64 x, .int .i64 y, .int .i64 z] wz fun e w' => ∃ p c, e = .returned (.tuple #[.agg #[.slice p ik c], .bool bd]) ∧ (bd = true → Gr w' (.agg #[.slice p ik c]) (matG y.toNat (dcE x z))) ∧ Below wz.heap.size wz w') ∧ Hid (∀ wz, Calls Tryd.prog 64 #[.int .i64 x, .int .i64 y, .int .i64 z] wz fun e w' => ∃ p k c, e = .returned (.tuple #[.agg #[.slice p k c], .bool bd]) ∧ (bd = true → Gr w' (.agg #[.slice p k c]) (matG y.toNat (dcE x z))) ∧ Below wz.heap.size wz w') ∧ Hid (bd = true → GOk (matG y.toNat (dcE x z))) := by
    by_cases hok : DcOk y z
    · obtain ⟨n, rfl⟩ : ∃ n : Nat, y = n := ⟨y.toNat, by have := hok.1.1; omega⟩
      have h1 := hok.1.1
      have h2 := hok.1.2
      refine ⟨n, n, true, Lib.hid fun wz ht => ?_, Lib.hid fun wz => ?_, Lib.hid fun _ => ?_⟩
      · refine (implDice_yes x n z hok wz ht).mono ?_
        rintro e w' ⟨p, c, rfl, hd, hb⟩
        rw [Int.toNat_natCast]
        exact ⟨p, c, rfl, fun _ => hd.gr (by rw [matG_length]; omega) (fun j _ => Nat.le_trans (matG_row_le j) (by omega)), hb⟩
      · refine (specDice_yes x n z hok wz).mono ?_
        rintro e w' ⟨p, c, rfl, hd, hb⟩
        rw [Int.toNat_natCast]
        exact ⟨p, n, c, rfl, fun _ => hd.gr (by rw [matG_length]; omega) (fun j _ => Nat.le_trans (matG_row_le j) (by omega)), hb⟩
      · rw [Int.toNat_natCast]
        exact gok_matG (by omega) (by omega) (dcE_sym x z) (dcE_irr x z)
    · refine ⟨0, 0, false, Lib.hid fun wz ht => ?_, Lib.hid fun wz => ?_, Lib.hid fun h => by cases h⟩
      · refine (implDice_no x y z hok wz).mono ?_
        rintro e w' ⟨rfl, hb⟩
        exact ⟨none, 0, rfl, fun h => (by cases h), hb⟩
      · refine (specDice_no x y z hok wz).mono ?_
        rintro e w' ⟨p, k, c, rfl, hb⟩
        exact ⟨p, k, c, rfl, fun h => (by cases h), hb⟩
  go_upto_region 5 with (go_at_call 63; refine (HI.out _ HT2.out).mono ?_; rintro e w3 ⟨ap, ac, rfl, hga, hb3⟩)
  obtain ⟨w4, hw4⟩ : ∃ w4, w4 = w3.alloc (.cells #[.slice ap iv ac] 29) := ⟨_, rfl⟩
  rw [← hw4]
  have hb34 : Below w3.heap.size w3 w4 := by rw [hw4]; exact below_alloc _ _
  have HXA : Hid (Box w4 w3.heap.size 29 (.slice ap iv ac)) := Lib.hid (by rw [hw4]; exact Box.new _ _ _)
  have HGA : Hid (bd = true → Gr w4 (.agg #[.slice ap iv ac]) (matG y.toNat (dcE x z))) := Lib.hid (fun h => (hga h).below hb34)
  have HB4 := Lib.hid (hb3.trans (hb34.mono hb3.size))
  generalize w3.heap.size = ba at *
  clear hw4 hb34 hga hb3
  go_upto_region 6 with (go_at_call 64; refine (HS.out _).mono ?_; rintro e w5 ⟨sp, sk, sc, rfl, hgs, hb5⟩)
  obtain ⟨w6, hw6⟩ : ∃ w6, w6 = w5.alloc (.cells #[.slice sp sk sc] 29) := ⟨_, rfl⟩
  rw [← hw6]
  have hb56 : Below w5.heap.size w5 w6 := by rw [hw6]; exact below_alloc _ _
  have HXS : Hid (Box w6 w5.heap.size 29 (.slice sp sk sc)) := Lib.hid (by rw [hw6]; exact Box.new _ _ _)
  have HGS : Hid (bd = true → Gr w6 (.agg #[.slice sp sk sc]) (matG y.toNat (dcE x z))) := Lib.hid (fun h => (hgs h).below hb56)
  have HB6 := Lib.hid (hb5.trans (hb56.mono hb5.size))
  have HXA6 := Lib.hid (HXA.out.keep HB6.out)
  have HGA6 : Hid (bd = true → Gr w6 (.agg #[.slice ap iv ac]) (matG y.toNat (dcE x z))) := Lib.hid (fun h => (HGA.out h).below HB6.out)
  have HW6 := Lib.hid ((HW2.out.trans (HB4.out.mono HW2.out.size)).trans (HB6.out.mono (Nat.le_trans HW2.out.size HB4.out.size)))
  generalize w5.heap.size = bs' at *
  clear hw6 hb56 hgs hb5 HXA HGA
  have SAME : Hid (bd = true → Calls Tryd.prog 60 #[.agg #[.slice ap iv ac], .agg #[.slice sp sk sc]] w6 fun e w' => e = .returned (.bool true) ∧ Below w6.heap.size w6 w') := Lib.hid (fun h => by
    refine (specSameGraph_any _ _ _ _ w6 (HGA6.out h) (HGS.out h)).mono ?_
    rintro e w' ⟨rfl, hb⟩
    exact ⟨ret_bool (dec_true ⟨HSAME.out h, HSAME.out h, rfl⟩), hb⟩)
  have ca := HXA6.out.cell
  have cs := HXS.out.cell
  go_cut [48] (fun s wx => s = .bool false ∧ Below w6.heap.size w6 wx)
  case first =>
    cases bd
    · go_wp2_with fail
      go_meet
      exact ⟨rfl, Below.refl _ _⟩
    · go_wp2_with (go_at_call 60; refine (SAME.out rfl).mono ?_; rintro e w7 ⟨rfl, hb7⟩; have HB7 := Lib.hid hb7; clear hb7)
      go_meet
      exact ⟨rfl, HB7.out⟩
  case rest =>
  obtain ⟨rfl, hb7⟩ := hcut
  rename_i w7
  have HW7 := Lib.hid (HW6.out.trans (hb7.mono HW6.out.size))
  have HT7 := Lib.hid (HT.out.keep HW7.out)
  have HA7 := Lib.hid (HA.out.below HW7.out)
  clear hb7 HW2 HT2 HI HS HSAME HB4 HXS HGS HB6 HXA6 HGA6 HW6 SAME ca cs HT HA
  go_upto_region 9 with (go_at_call 65; refine (drawKneser_any _ bs hl _ HA7.out).mono ?_; rintro e w8 ⟨q, rfl, hb8⟩)
  have HW8 := Lib.hid (HW7.out.trans (hb8.mono HW7.out.size))
  have HT8 := Lib.hid (HT7.out.keep hb8)
  clear hb8
  by_cases hok : KnOk q
  case neg =>
    have HN := Lib.hid hok
    clear hok
    go_wp2_with (first
      | (go_at_call 66; refine (implKneser_no q HN.out _).mono ?_; rintro e wa ⟨rfl, hba⟩; have HBA := Lib.hid (HW8.out.trans (hba.mono HW8.out.size)); clear hba)
      | (go_at_call 67; refine (specKneser_no q HN.out _).mono ?_; rintro e wb ⟨rfl, hbb⟩; have HBB := Lib.hid hbb; clear hbb))
    go_ret
    have s1 := HBA.out.size
    refine ⟨rfl, ?_⟩
    first
      | exact ((HBA.out.alloc s1 _).trans (HBB.out.mono (by rw [size_alloc]; omega))).alloc (by have := HBB.out.size; rw [size_alloc] at this; omega) _
      | exact (HBA.out.trans (HBB.out.mono s1))
  obtain ⟨k, rfl⟩ : ∃ k : Nat, q = k := ⟨q.toNat, by have := hok.1; omega⟩
  have hk4 : 4 ≤ k := by have := hok.1; omega
  have hk6 : k ≤ 6 := by have := hok.2; omega
  obtain ⟨m, d, hm, hmm, hdd, hm1, hm16, hdeg⟩ := pairsK_len k hk4 hk6
  have hd16 : d ≤ 100 := by
    have hk : k = 4 ∨ k = 5 ∨ k = 6 := by omega
    rcases hk with h | h | h <;> rw [h] at hdd <;> omega
  obtain ⟨k1, k2, k3, P1, P2, e1, e2, e3, e4, e5, e6, e7⟩ := kn_nums k m d hk4 hk6 hmm hdd
  obtain ⟨g, hg⟩ : ∃ g, g = matG m (knE k) := ⟨_, rfl⟩
  have hgl : g.length = m := by rw [hg, matG_length]
  have HGK : Hid (GOk g) := Lib.hid (by rw [hg]; exact gok_matG hm1 hm16 (knE_sym k) (knE_irr k))
  have HDEG : Hid (∀ z ∈ degL g m, z = (d : Int)) := Lib.hid (fun z hz => by
    obtain ⟨v, hv, rfl⟩ := List.mem_map.1 hz
    have hv := List.mem_range.1 hv
    rw [row_degE HGK.out (by omega), hgl, hg]
    have h1 : degN m (ofG (matG m (knE k))) v = degN m (knE k) v := by
      unfold degN
      exact List.countP_congr fun j hj => by rw [ofG_matG hv (List.mem_range.1 hj)]
    rw [h1, hdeg v hv])
  have IK : Hid (∀ wz, Tab wz → Calls Tryd.prog 66 #[.int .i64 (k : Int)] wz fun e w' => ∃ p c, e = .returned (.tuple #[.agg #[.slice p m c], .bool true]) ∧ Gr w' (.agg #[.slice p m c]) g ∧ Below wz.heap.size wz w') := Lib.hid (fun wz ht => by
    refine (implKneser_yes k m hk4 hk6 hm hm1 hm16 wz ht).mono ?_
    rintro e w' ⟨p, c, rfl, hd, hb⟩
    rw [← hg] at hd
    exact ⟨p, c, rfl, hd.gr (by omega) (fun j _ => by rw [hg]; exact Nat.le_trans (matG_row_le j) (by omega)), hb⟩)
  have SK : Hid (∀ wz, Calls Tryd.prog 67 #[.int .i64 (k : Int)] wz fun e w' => ∃ p c, e = .returned (.tuple #[.agg #[.slice p m c], .bool true]) ∧ Gr w' (.agg #[.slice p m c]) g ∧ Below wz.heap.size wz w') := Lib.hid (fun wz => by
    refine (specKneser_yes k m hk4 hk6 hm hm1 hm16 wz).mono ?_
    rintro e w' ⟨p, c, rfl, hd, hb⟩
    rw [← hg] at hd
    exact ⟨p, c, rfl, hd.gr (by omega) (fun j _ => by rw [hg]; exact Nat.le_trans (matG_row_le j) (by omega)), hb⟩)
  have SM : Hid (∀ wz (u v : Value), Gr wz u g → Gr wz v g → Calls Tryd.prog 60 #[u, v] wz fun e w' => e = .returned (.bool true) ∧ Below wz.heap.size wz w') := Lib.hid (fun wz u v hu hv => by
    refine (specSameGraph_any u v g g wz hu hv).mono ?_
    rintro e w' ⟨rfl, hb⟩
    exact ⟨ret_bool (dec_true ⟨HGK.out, HGK.out, rfl⟩), hb⟩)
  have SD : Hid (∀ wz (v : Value), Gr wz v g → Calls Tryd.prog 68 #[v] wz fun e w' => ∃ p c, e = .returned (.slice p m c) ∧ Below wz.heap.size wz w') := Lib.hid (fun wz v hv => by
    refine (specDegreesOf_len v g HGK.out wz hv).mono ?_
    rintro e w' ⟨p, c, rfl, hb⟩
    exact ⟨p, c, by rw [hgl], hb⟩)
  have ID : Hid (∀ wz (v : Value), Gr wz v g → Calls Tryd.prog 69 #[v] wz fun e w' => ∃ b o c, e = .returned (.slice (some ⟨b, o, none⟩) m c) ∧ w'.cell? ⟨b, o, none⟩ = some (.int .i64 (d : Int)) ∧ Below wz.heap.size wz w') := Lib.hid (fun wz v hv => by
    refine (implDegreesP_any v g wz hv).mono ?_
    rintro e w' ⟨u, rfl, ⟨_, zs, hzl, hzp, _, ho⟩ | ⟨h, _⟩, hb⟩
    · have hn := Nums.of_owns ho rfl (by omega)
      obtain ⟨q, dc, hq, _⟩ := hn.shape
      subst hq
      obtain ⟨b, o, hp, hc⟩ := hn.get (k := 0) (by omega)
      subst hp
      have hz0 := HDEG.out (zs[0]'(by omega)) (by
        have := hzp.mem_iff.1 (List.getElem_mem (show 0 < zs.length by omega))
        rw [hgl] at this
        exact this)
      rw [hz0] at hc
      exact ⟨b, o, dc, by rw [hzl, hgl], hc, hb⟩
    · exact absurd HGK.out h)
  clear hok hm hmm hdd hdeg hg hgl HDEG HGK
  go_upto_region 10 with (go_at_call 66; refine (IK.out _ HT8.out).mono ?_; rintro e w9 ⟨ap2, ac2, rfl, hga, hb9⟩)
  obtain ⟨wa, hwa⟩ : ∃ wa, wa = w9.alloc (.cells #[.slice ap2 m ac2] 29) := ⟨_, rfl⟩
  rw [← hwa]
  have hba : Below w9.heap.size w9 wa := by rw [hwa]; exact below_alloc _ _
  have HXP : Hid (Box wa w9.heap.size 29 (.slice ap2 m ac2)) := Lib.hid (by rw [hwa]; exact Box.new _ _ _)
  have HGP := Lib.hid (hga.below hba)
  have HBA := Lib.hid (HW8.out.trans ((hb9.trans (hba.mono hb9.size)).mono HW8.out.size))
  generalize w9.heap.size = bp at *
  clear hwa hba hga hb9
  go_upto_region 11 with (go_at_call 67; refine (SK.out _).mono ?_; rintro e wb ⟨qp2, qc2, rfl, hgq, hbb⟩)
  obtain ⟨wc, hwc⟩ : ∃ wc, wc = wb.alloc (.cells #[.slice qp2 m qc2] 29) := ⟨_, rfl⟩
  rw [← hwc]
  have hbc : Below wb.heap.size wb wc := by rw [hwc]; exact below_alloc _ _
  have HXQ : Hid (Box wc wb.heap.size 29 (.slice qp2 m qc2)) := Lib.hid (by rw [hwc]; exact Box.new _ _ _)
  have HGQ := Lib.hid (hgq.below hbc)
  have HBC0 := Lib.hid (hbb.trans (hbc.mono hbb.size))
  have HXPC := Lib.hid (HXP.out.keep HBC0.out)
  have HGPC := Lib.hid (HGP.out.below HBC0.out)
  have HBC := Lib.hid (HBA.out.trans (HBC0.out.mono HBA.out.size))
  have cp := HXPC.out.cell
  have cq := HXQ.out.cell
  generalize wb.heap.size = bq at *
  clear hwc hbc hgq hbb HXP HGP HBC0
  go_wp2_with (first
    | (go_at_call 60; refine (SM.out _ _ _ HGPC.out HGQ.out).mono ?_; rintro e wd ⟨rfl, hbd⟩; have HBD := Lib.hid hbd; have cpd := hbd.at' cp; clear hbd)
    | (go_at_call 68; refine (SD.out _ _ (HGPC.out.below HBD.out)).mono ?_; rintro e we ⟨p9, c9, rfl, hbe⟩; have HBE := Lib.hid (HBD.out.trans (hbe.mono HBD.out.size)); have cpe := hbe.at' cpd; clear hbe)
    | (go_at_call 69; refine (ID.out _ _ (HGPC.out.below HBE.out)).mono ?_; rintro e wf ⟨zb, zo, zc, rfl, hcz, hbf⟩; have HBF := Lib.hid (HBE.out.trans (hbf.mono HBE.out.size)); clear hbf))
  go_ret
  exact ⟨rfl, HBC.out.trans (HBF.out.mono HBC.out.size)⟩

end Go.Proofs.YtkppbmfliejnmaaDoor
