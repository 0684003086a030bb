/- Walks: the reference's l25Set, BarrierOf. -/
import Derived.Test.YtiooindlpinjhaaDoorBaQ38
import Derived.Test.YtiooindlpinjhaaDoorBaQ35
import Derived.Test.YtiooindlpinjhaaDoorBaQ12
namespace Go.Proofs.YtiooindlpinjhaaDoor
open Go.RowKit

/-- The set's members below k. -/
def lowS (s k : Nat) : List Nat := (List.range k).filter fun j => s.testBit j
theorem lowS_succ (s k : Nat) : lowS s (k + 1) = if s.testBit k = true then lowS s k ++ [k] else lowS s k := by
  unfold lowS
  rw [List.range_succ, List.filter_append]
  by_cases h : s.testBit k = true <;> simp [h]
theorem lowS_le (s k : Nat) : (lowS s k).length ≤ k := Nat.le_trans (List.length_filter_le _ _) (by simp)
theorem lowS_all {s k : Nat} (hs : s < 65536) (hk : s < 2 ^ k) : lowS s k = bitsOf s := by
  refine rising_ext _ _ (List.Pairwise.filter _ List.pairwise_lt_range) (bitsOf_rising _) fun x => ?_
  unfold lowS
  rw [List.mem_filter, List.mem_range, mem_left hs]
  refine ⟨fun h => h.2, fun h => ⟨Nat.lt_of_not_le fun hge => ?_, h⟩⟩
  rw [Nat.testBit_lt_two_pow (Nat.lt_of_lt_of_le hk (Nat.pow_le_pow_right (by decide) hge))] at h
  cases h
set_option maxRecDepth 100000 in
set_option maxHeartbeats 2000000 in
theorem l25Set_any (z : Int) (s : Nat) (hz : z = s) (hs : s < 65536) (w : World) :
    Calls Tryd.prog 51 #[.int .i64 z] w fun e w' => ∃ u, e = .returned u ∧ w'.ownsRow w.heap.size 2 1 u (bitsOf s).length ((natInts (bitsOf s)).map (Value.int .i64)) ∧ Below w.heap.size w w' := by
  subst hz
  have HS := Lib.hid hs
  go_enter Tryd.func51, Tryd.ntmps51
  go_wp2
  go_loopw [3, 4] (fun o v wr => ∃ k : Nat, k ≤ 16 ∧ v = .int .i64 k ∧ Hid (wr.ownsRow w.heap.size 2 1 o (lowS s k).length ((natInts (lowS s k)).map (Value.int .i64))) ∧ Hid (Below w.heap.size w wr)) (fun _ v _ => 17 - (intOf v).toNat)
  case atStart => exact ⟨0, Nat.zero_le _, rfl, Lib.hid (ownsRow_empty _ _ _), Lib.hid (below_alloc _ _)⟩
  case round =>
    obtain ⟨k, hk, rfl, HO, HB⟩ := hrel
    have hll := lowS_le s k
    have hsz := HB.out.size
    have hbit := shrB_bit s k HS.out
    by_cases hlt : s < 2 ^ k
    · have hz0 : s / 2 ^ k = 0 := Nat.div_eq_of_lt hlt
      have e0 : ((s : Int) / 2 ^ k) = ((s / 2 ^ k : Nat) : Int) := by simp
      have hz : ((s : Int) / 2 ^ k) = 0 := by rw [e0, hz0]; rfl
      have HE := Lib.hid (lowS_all HS.out hlt)
      clear hz0 e0 hbit hlt
      go_wp2
      go_ret
      exact ⟨_, rfl, by have := HO.out; rw [HE.out] at this; exact this, HB.out⟩
    · have hk16 : k < 16 := Nat.lt_of_not_le fun hge => hlt (by
        have : 2 ^ 16 ≤ 2 ^ k := Nat.pow_le_pow_right (by decide) hge
        omega)
      have e0 : ((s : Int) / 2 ^ k) = ((s / 2 ^ k : Nat) : Int) := by simp
      have hpos : (0 : Int) < ((s : Int) / 2 ^ k) := by
        rw [e0]
        have : 0 < s / 2 ^ k := Nat.div_pos (by omega) (Nat.two_pow_pos k)
        omega
      have HSU := Lib.hid (lowS_succ s k)
      clear e0 hlt
      by_cases hb : s.testBit k = true
      · have HF : Hid (lowS s (k + 1) = lowS s k ++ [k]) := Lib.hid (by rw [HSU.out, if_pos hb])
        rw [hb] at hbit
        simp only [if_true, Int.natCast_one] at hbit
        have hown := HO.out
        clear hb
        go_wp2_with (at_builtin; refine wpList_app1 ty_i64 rfl rfl rfl hown rfl rfl (by omega) hsz ?_; intro v' wz hown' hgz _)
        go_roundw
        case rel => exact ⟨k + 1, by omega, by go_num, Lib.hid (by rw [HF.out, List.length_append]; simpa [natInts] using hown'), Lib.hid (below_grown HB.out hown hgz (Nat.le_refl _) hsz)⟩
        case measure => simp [intOf]; omega
      · have HF : Hid (lowS s (k + 1) = lowS s k) := Lib.hid (by rw [HSU.out, if_neg hb])
        have hbf : s.testBit k = false := by simpa using hb
        rw [hbf] at hbit
        simp only [Bool.false_eq_true, if_false, Int.natCast_zero] at hbit
        clear hb hbf
        go_wp2
        go_roundw
        case rel => exact ⟨k + 1, by omega, by go_num, Lib.hid (by rw [HF.out]; exact HO.out), HB⟩
        case measure => simp [intOf]; omega

set_option maxRecDepth 100000 in
set_option maxHeartbeats 1000000 in
theorem l25AllB_any (v : Value) (g : List (List Int)) (h16 : g.length ≤ 16) (w : World) (hg : Gr w v g) :
    Calls Tryd.prog 47 #[v] w fun e w' => e = .returned (.int .i64 ((2 ^ g.length - 1 : Nat) : Int)) ∧ Below w.heap.size w w' := by
  obtain ⟨u, rfl, hr⟩ := hg
  obtain ⟨p, c, rfl, _⟩ := hr.shape
  have hb0 := below_alloc w (.cells #[.slice p g.length c] 28)
  have HB0 := Lib.hid hb0
  have c0 := (Box.new w (.slice p g.length c) 28).cell
  have hwp := wrap_pow g.length (by omega)
  obtain ⟨q, hq⟩ : ∃ q, q = 2 ^ g.length := ⟨_, rfl⟩
  have hq1 : 1 ≤ q := by rw [hq]; exact Nat.two_pow_pos _
  have hq16 : q ≤ 65536 := by
    rw [hq]
    exact Nat.le_trans (Nat.pow_le_pow_right (by decide) h16) (by decide)
  rw [← hq] at hwp ⊢
  clear hr hb0 hq
  go_enter Tryd.func47, Tryd.ntmps47
  go_wp2
  go_ret
  exact ⟨by go_num, HB0.out⟩
set_option maxRecDepth 100000 in
set_option maxHeartbeats 8000000 in
theorem specBarrierOf_any (v : Value) (g : List (List Int)) (w : World) (hg : Gr w v g) :
    Calls Tryd.prog 8 #[v] w fun e w' => ∃ (ov : Value) (ys : List Int), e = .returned ov ∧ BarS g ys ∧ ys.length ≤ 32 ∧
      w'.ownsRow w.heap.size 2 1 ov ys.length (ys.map (Value.int .i64)) ∧ Below w.heap.size w w' := by
  have hg0 := Lib.hid hg
  obtain ⟨_, rfl, hr⟩ := hg
  obtain ⟨ga, gc, rfl, _⟩ := hr.shape
  obtain ⟨w1, hw1⟩ : ∃ w1, w1 = w.alloc (.cells #[.slice ga g.length gc] 28) := ⟨_, rfl⟩
  have HX : Hid (Box w1 w.heap.size 28 (.slice ga g.length gc)) := Lib.hid (by rw [hw1]; exact Box.new _ _ _)
  have HB1 : Hid (Below w.heap.size w w1) := Lib.hid (by rw [hw1]; exact below_alloc _ _)
  have HG1 := Lib.hid (hg0.out.below HB1.out)
  have s1 := HB1.out.size
  clear hr hg0
  by_cases hok : GOk g
  case neg =>
    have HD := Lib.hid (dec_false hok)
    have HOK := Lib.hid hok
    clear hok
    go_enter Tryd.func8, Tryd.ntmps8
    go_upto_region 1 with fail
    rw [← hw1]
    clear hw1
    have c1 := HX.out.cell
    go_wp2_with (go_at_call 45; refine (specGraphOk_any _ g _ HG1.out).mono ?_; rintro e w2 ⟨he, hb2⟩; rw [HD.out] at he; subst he)
    go_ret
    have hb2' := HB1.out.trans (hb2.mono s1)
    exact ⟨_, [], rfl, .inr ⟨HOK.out, rfl⟩, by simp, ownsRow_base (ownsRow_empty w2 _ 1) hb2'.size, hb2'.trans ((below_alloc w2 _).mono hb2'.size)⟩
  have HD := Lib.hid (dec_true hok)
  have HOK := Lib.hid hok
  have n16 := hok.le
  have HS := Lib.hid (ofG_sym hok)
  obtain ⟨n, hn⟩ : ∃ n, n = g.length := ⟨_, rfl⟩
  have HN := Lib.hid hn
  have hn16 : n ≤ 16 := by omega
  obtain ⟨M, hM⟩ : ∃ M, M = 2 ^ n - 1 := ⟨_, rfl⟩
  have HM1 : Hid (M + 1 = 2 ^ n) := Lib.hid (by have := Nat.two_pow_pos n; omega)
  have hM16 : M < 65536 := by
    have h2 : 2 ^ n ≤ 2 ^ 16 := Nat.pow_le_pow_right (by decide) (by omega)
    have h3 : 0 < 2 ^ n := Nat.two_pow_pos n
    omega
  have HM := Lib.hid hM
  have ALL : Hid (∀ wz, Gr wz (.agg #[.slice ga g.length gc]) g → Calls Tryd.prog 47 #[.agg #[.slice ga g.length gc]] wz fun e w' => e = .returned (.int .i64 (M : Int)) ∧ Below wz.heap.size wz w') := Lib.hid fun wz h => by rw [hM, hn]; exact l25AllB_any _ g n16 wz h
  have FIN : Hid (∀ b m, BaI n (ofG g) (M + 1) b m → LeastP (BarP g.length (ofG g)) g.length b) := Lib.hid fun b m h => by
    rw [HM1.out] at h
    rw [← HN.out]
    exact h.fin (by omega) HS.out
  clear hok hn hM
  go_enter Tryd.func8, Tryd.ntmps8
  go_upto_region 1 with fail
  rw [← hw1]
  clear hw1
  have c1 := HX.out.cell
  go_wp2_with (first
    | (go_at_call 46; refine (l25Bits_any _ g _ (HG1.out.below hb2) HOK.out).mono ?_; rintro e w3 ⟨xv, rfl, ho3, hb3⟩; obtain ⟨xp, xc, rfl⟩ := owns_shapeBa ho3; rw [← HN.out]; have HO3 := Lib.hid ho3; have HB3 : Hid (Below w1.heap.size w1 w3) := Lib.hid (hb2.trans (hb3.mono hb2.size)); clear ho3 hb3)
    | (go_at_call 45; refine (specGraphOk_any _ g _ HG1.out).mono ?_; rintro e w2 ⟨he, hb2⟩; rw [HD.out] at he; subst he; have c2 := hb2.at' c1))
  have HSL : Hid (Sl w3 2 (.slice xp n xc) n ((indN n (ofG g)).map i64v)) := Lib.hid (by
    have := Sl.of_owns HO3.out (by omega)
    rw [← indN_ofG HOK.out, ← HN.out] at this
    exact this)
  have c3 := HB3.out.at' c1
  have HG3 := Lib.hid (HG1.out.below HB3.out)
  have HB3' := Lib.hid (HB1.out.trans (HB3.out.mono s1))
  clear hb2 c1 c2 HO3 HB3 HG1
  go_loopw [4, 5, 6] (fun bv mv kv wr => ∃ (k b : Nat) (m : Int), k ≤ M + 1 ∧ kv = .int .i64 (k : Int) ∧ bv = .int .i64 (b : Int) ∧ mv = .int .i64 m ∧ -16 ≤ m ∧ m ≤ 16 ∧ b ≤ M ∧ Hid (BaI n (ofG g) k b m) ∧ Hid (Below w3.heap.size w3 wr)) (fun _ _ kv _ => M + 1 - (intOf kv).toNat)
  case atStart => exact ⟨0, 0, -16, Nat.zero_le _, rfl, rfl, rfl, by omega, by omega, Nat.zero_le _, Lib.hid (.inl ⟨rfl, rfl, by omega⟩), Lib.hid (Below.refl _ _)⟩
  case round =>
    obtain ⟨k, b, m, hk, rfl, rfl, rfl, hm1, hm2, hbM, HI, HB⟩ := hrel
    have HGr := Lib.hid (HG3.out.below HB.out)
    have cr := HB.out.at' c3
    by_cases hkM : k ≤ M
    · have hki : (k : Int) ≤ (M : Int) := by omega
      obtain ⟨t, ht⟩ : ∃ t, t = sub M k := ⟨_, rfl⟩
      have hand : bits BinOp.andNot IntKind.i64 (M : Int) (k : Int) = (t : Int) := by rw [ht]; exact i64_andNot_nat M k (by omega) (by omega)
      have ht16 : t < 65536 := by
        have : t < 2 ^ 16 := Nat.lt_pow_two_of_testBit _ fun j hj => by
          rw [ht, testBit_sub _ _ (by omega) (by omega), Nat.testBit_lt_two_pow (Nat.lt_of_lt_of_le (show M < 2 ^ 16 by omega) (Nat.pow_le_pow_right (by decide) hj))]
          rfl
        omega
      have HLK : Hid (bitsOf t = leftK n k) := Lib.hid (by rw [ht, HM.out]; rfl)
      have HTN : Hid (∀ i ∈ bitsOf t, i < n) := Lib.hid fun i hi => by
        rw [HLK.out] at hi
        exact List.mem_range.1 ((mem_leftK (by omega) (by have := HM1.out; omega)).1 hi).1
      obtain ⟨od, hod⟩ : ∃ od, od = oddN n (ofG g) k := ⟨_, rfl⟩
      obtain ⟨nk, hnk⟩ : ∃ nk, nk = (bitsOf k).length := ⟨_, rfl⟩
      obtain ⟨nb, hnb⟩ : ∃ nb, nb = (bitsOf b).length := ⟨_, rfl⟩
      have hod16 : od ≤ 16 := by
        rw [hod]
        obtain ⟨ps, h1, h2⟩ := oddK_parts (ofG g) (leftK n k)
        have h3 := oddL_le ps
        have h4 : ps.length ≤ (leftK n k).length := parts_fewBa h1
        have h5 := nodup_le n (leftK n k) (nodup_bits _) (fun i hi => by rw [← HLK.out] at hi; exact HTN.out i hi)
        unfold oddN
        omega
      have hnk16 : nk ≤ 16 := by
        rw [hnk]
        exact nodup_le 16 _ (nodup_bits _) fun i hi => bitsOf_lt16 (by omega) hi
      have hnb16 : nb ≤ 16 := by
        rw [hnb]
        exact nodup_le 16 _ (nodup_bits _) fun i hi => bitsOf_lt16 (by omega) hi
      obtain ⟨d, hd⟩ : ∃ d : Int, d = (od : Int) - (nk : Int) := ⟨_, rfl⟩
      have hwd : IntKind.i64.wrap ((od : Int) - (nk : Int)) = d := by rw [IntKind.wrap_i64]; omega
      have hd1 : -16 ≤ d := by omega
      have hd2 : d ≤ 16 := by omega
      have HV : Hid (valB n (ofG g) k = d) := Lib.hid (by rw [hd, hod, hnk]; rfl)
      have HNK := Lib.hid hnk
      have HNB := Lib.hid hnb
      have PRT : Hid (∀ wz, Below w3.heap.size w3 wz → Calls Tryd.prog 48 #[.slice xp n xc, .int .i64 (t : Int)] wz fun e w' => ∃ mm : Nat, e = .returned (.tuple #[.int .i64 (mm : Int), .int .i64 (od : Int)]) ∧ wz = w') := Lib.hid fun wz h => by
        have := l27Parts_any (.slice xp n xc) (t : Int) n (ofG g) t rfl (by omega) ht16 HTN.out wz (HSL.out.below h)
        rw [HLK.out] at this
        rw [hod]
        exact this
      have MK : Hid (∀ wz, Calls Tryd.prog 49 #[.int .i64 (k : Int)] wz fun e w' => e = .returned (.int .i64 (nk : Int)) ∧ wz = w') := Lib.hid fun wz => by
        rw [hnk]
        refine (l25Many_any (k : Int) k rfl (by omega) wz).mono ?_
        rintro e w' ⟨rfl, rfl⟩
        exact ⟨rfl, rfl⟩
      have MB : Hid (∀ wz, Calls Tryd.prog 49 #[.int .i64 (b : Int)] wz fun e w' => e = .returned (.int .i64 (nb : Int)) ∧ wz = w') := Lib.hid fun wz => by
        rw [hnb]
        refine (l25Many_any (b : Int) b rfl (by omega) wz).mono ?_
        rintro e w' ⟨rfl, rfl⟩
        exact ⟨rfl, rfl⟩
      clear ht hod hnk hnb hd
      go_upto_region 12 with (first
        | (go_at_call 49; have hz := HMK1; refine (MB.out _).mono ?_; rintro e w8 ⟨rfl, hw⟩; subst hw)
        | (go_at_call 49; refine (MK.out _).mono ?_; rintro e w8 ⟨rfl, hw⟩; subst hw; have HMK1 := Lib.hid trivial)
        | (go_at_call 48; refine (PRT.out _ HB6.out).mono ?_; rintro e w7 ⟨mm, rfl, hw⟩; subst hw)
        | (go_at_call 47; have hz := c5; refine (ALL.out _ (HGr.out.below hb5)).mono ?_; rintro e w6 ⟨rfl, hb6⟩; have HB6 := Lib.hid (HB.out.trans ((hb5.trans (hb6.mono hb5.size)).mono HB.out.size)))
        | (go_at_call 47; refine (ALL.out _ HGr.out).mono ?_; rintro e w5 ⟨rfl, hb5⟩; have c5 := hb5.at' cr))
      clear hb5 hb6 c5 cr HB HGr PRT MK MB
      by_cases hA : m < d
      · have HNW : Hid (BaI n (ofG g) (k + 1) k d) := Lib.hid (by have := HI.out.new (.inl (by rw [HV.out]; exact hA)); rw [HV.out] at this; exact this)
        go_wp2_with fail
        go_roundw
        case rel => exact ⟨k + 1, k, _, by omega, by go_num, rfl, rfl, by omega, by omega, by omega, HNW, HB6⟩
        case measure => simp [intOf]; omega
      by_cases hE : d = m
      · subst hE
        clear hA
        by_cases hl : nk < nb
        · have hli : (nk : Int) < (nb : Int) := by omega
          have HNW : Hid (BaI n (ofG g) (k + 1) k d) := Lib.hid (by have := HI.out.new (.inr ⟨HV.out, .inl (by rw [← HNK.out, ← HNB.out]; exact hl)⟩); rw [HV.out] at this; exact this)
          go_wp2_with fail
          go_roundw
          case rel => exact ⟨k + 1, k, _, by omega, by go_num, rfl, rfl, by omega, by omega, by omega, HNW, HB6⟩
          case measure => simp [intOf]; omega
        by_cases he2 : nk = nb
        · subst he2
          clear hl
          have hlen : (bitsOf k).length = (bitsOf b).length := by rw [← HNK.out, ← HNB.out]
          have LESS : Hid (∀ wz, Calls Tryd.prog 50 #[.int .i64 (k : Int), .int .i64 (b : Int)] wz fun e w' => e = .returned (.bool (dec (lexL (bitsOf k) (bitsOf b)))) ∧ wz = w') := Lib.hid fun wz => l25Less_any (k : Int) (b : Int) k b rfl rfl (by omega) (by omega) hlen wz
          have HLEN := Lib.hid hlen
          clear hlen
          by_cases hx : lexL (bitsOf k) (bitsOf b)
          · have HDL := Lib.hid (dec_true hx)
            have HNW : Hid (BaI n (ofG g) (k + 1) k d) := Lib.hid (by have := HI.out.new (.inr ⟨HV.out, .inr ⟨HLEN.out, hx⟩⟩); rw [HV.out] at this; exact this)
            clear hx
            go_wp2_with (go_at_call 50; refine (LESS.out _).mono ?_; rintro e w9 ⟨he, hw⟩; rw [HDL.out] at he; subst he; subst hw)
            go_roundw
            case rel => exact ⟨k + 1, k, _, by omega, by go_num, rfl, rfl, by omega, by omega, by omega, HNW, HB6⟩
            case measure => simp [intOf]; omega
          · have HDL := Lib.hid (dec_false hx)
            have HNW : Hid (BaI n (ofG g) (k + 1) b d) := Lib.hid (HI.out.keep (.inr ⟨HV.out, fun h => by
              rcases h with h | ⟨_, h⟩
              · have := HLEN.out; omega
              · exact hx h⟩))
            clear hx
            go_wp2_with (go_at_call 50; refine (LESS.out _).mono ?_; rintro e w9 ⟨he, hw⟩; rw [HDL.out] at he; subst he; subst hw)
            go_roundw
            case rel => exact ⟨k + 1, b, d, by omega, by go_num, rfl, rfl, hm1, hm2, hbM, HNW, HB6⟩
            case measure => simp [intOf]; omega
        · have hli : ¬ (nk : Int) < (nb : Int) := by omega
          have hne : ((nk : Int) == (nb : Int)) = false := beq_eq_false_iff_ne.2 (by omega)
          have HNW : Hid (BaI n (ofG g) (k + 1) b d) := Lib.hid (HI.out.keep (.inr ⟨HV.out, fun h => by
            have e1 := HNK.out
            have e2 := HNB.out
            rcases h with h | ⟨h, _⟩
            · omega
            · omega⟩))
          go_wp2_with fail
          go_roundw
          case rel => exact ⟨k + 1, b, d, by omega, by go_num, rfl, rfl, hm1, hm2, hbM, HNW, HB6⟩
          case measure => simp [intOf]; omega
      · have hneq : (d == m) = false := beq_eq_false_iff_ne.2 hE
        have HNW : Hid (BaI n (ofG g) (k + 1) b m) := Lib.hid (HI.out.keep (.inl (by rw [HV.out]; omega)))
        go_wp2_with fail
        go_roundw
        case rel => exact ⟨k + 1, b, m, by omega, by go_num, rfl, rfl, hm1, hm2, hbM, HNW, HB6⟩
        case measure => simp [intOf]; omega
    · obtain rfl : k = M + 1 := by omega
      have hki : ¬ ((M + 1 : Nat) : Int) ≤ (M : Int) := by omega
      have hki2 : ¬ (M : Int) + 1 ≤ (M : Int) := by omega
      have HF := Lib.hid (FIN.out b m HI.out)
      have hb16 : b < 65536 := by omega
      go_wp2_with (first
        | (go_at_call 51; refine (l25Set_any _ b rfl hb16 _).mono ?_; rintro e w6 ⟨u, rfl, ho6, hb6⟩; have HO6 := Lib.hid ho6; have HB6 := Lib.hid hb6; clear ho6 hb6)
        | (go_at_call 47; refine (ALL.out _ HGr.out).mono ?_; rintro e w5 ⟨rfl, hb5⟩; have HB5 := Lib.hid (HB3'.out.trans ((HB.out.trans (hb5.mono HB.out.size)).mono HB3'.out.size)); clear hb5))
      go_ret
      exact ⟨_, natInts (bitsOf b), rfl, .inl ⟨HOK.out, b, HF.out, rfl⟩, by rw [natInts_length]; exact bitsOf_length b, by rw [natInts_length]; exact ownsRow_base HO6.out HB5.out.size, HB5.out.trans (HB6.out.mono HB5.out.size)⟩

end Go.Proofs.YtiooindlpinjhaaDoor
