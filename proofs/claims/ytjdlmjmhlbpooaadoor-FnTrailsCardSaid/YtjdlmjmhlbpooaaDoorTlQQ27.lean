/- Walks: canTrail, TrailOf (the program's). -/
import Derived.Test.YtjdlmjmhlbpooaaDoorTlQQ18
import Derived.Test.YtjdlmjmhlbpooaaDoorTlQQ26
import Derived.Deep.DeepCutAuto
namespace Go.Proofs.YtjdlmjmhlbpooaaDoor
open Go.RowKit

set_option maxRecDepth 100000 in
set_option maxHeartbeats 1000000 in
theorem narrowT_any (v : Value) (xs : List Int) (w : World) (hx : Nums w 2 .i64 v xs) :
    Calls Tryd.prog 59 #[v] w fun e w' => ∃ u, e = .returned u ∧
      w'.ownsRow w.heap.size 3 1 u xs.length (xs.map (Value.int .i64)) ∧ Below w.heap.size w w' := by
  obtain ⟨p, c, rfl, _, _, hn, hat⟩ := hx
  go_enter Tryd.func59, Tryd.ntmps59
  go_wp2_with (at_make; refine wpList_mk0 ty_int rfl rfl xs.length rfl rfl rfl hn ?_; intro w1 hown1 hg1)
  have hb1 := grown_below hg1
  clear hg1
  go_loopw [3, 5, 11] (fun u _ i wr => ∃ k : Nat, k ≤ xs.length ∧ i = .int .i64 k ∧ wr.ownsRow w.heap.size 3 1 u k ((xs.take k).map (Value.int .i64)) ∧ Below w.heap.size w wr)
    (fun _ _ i _ => xs.length - (intOf i).toNat)
  case atStart => exact ⟨0, Nat.zero_le _, rfl, by simpa using hown1, hb1⟩
  case round =>
    obtain ⟨k, hk, rfl, hown, hbel⟩ := hrel
    clear hown1 hb1
    by_cases hlt : k < xs.length
    · obtain ⟨b, o, rfl, hc⟩ := hat.num hlt
      have hcell := (hbel.cell (p := ⟨b, o + k, none⟩) (World.block_lt_of_cell? w _ hc)).trans hc
      have ht := Lib.hid (take_snoc xs k hlt)
      have hsz := hbel.size
      clear hc hat
      go_wp2_with (at_builtin; refine wpList_app1 ty_int rfl rfl rfl hown rfl rfl (by omega) hsz ?_; intro v' w1 hown' hg _)
      go_roundw
      case rel =>
        refine ⟨k + 1, by omega, by go_num, ?_, below_grown hbel hown hg (Nat.le_refl _) hsz⟩
        rw [ht.out, List.map_append]; exact hown'
      case measure => simp [intOf]; omega
    · obtain rfl : k = xs.length := by omega
      go_wp2
      go_ret
      rw [List.take_length] at hown
      exact ⟨_, rfl, hown, hbel⟩

theorem below_drew (w : World) (q : Nat) : Below w.heap.size w (w.drewN q) := below_dN (Below.refl _ _) q

set_option maxRecDepth 100000 in
set_option maxHeartbeats 4000000 in
theorem canTrail_any (x : Value) (y : Int) (n : Nat) (E : Nat → Nat → Bool) (hs : ∀ r j, E r j = true → E j r = true) (hi : ∀ r, E r r = false) (v : Nat) (hy : y = v) (hv : v < n) (w : World) (hx : NE w x n E) (hT : Tab w) :
    Calls Tryd.prog 63 #[x, .int .i64 y] w fun e w' => e = .returned (.bool (dec (Tr n E v))) ∧ Below w.heap.size w w' := by
  subst hy
  obtain ⟨xp, xc, rfl⟩ : ∃ p c, x = .slice p n c := by obtain ⟨p, c, e, _⟩ := hx.sl; exact ⟨p, c, e⟩
  have HX := Lib.hid hx
  have h16 := hx.le
  have HT := Lib.hid hT
  have HTR := Lib.hid (tr_two (n := n) (v := v) hs hi hv)
  have HEV := Lib.hid (odds_even (n := n) hs hi)
  have hv32 : v < 32 := by omega
  have hpv := pow_lt16 v (by omega)
  have hptv : ∀ j, (2 ^ v).testBit j = decide (v = j) := testBit_pow v
  have HPV : Hid (∀ j, (2 ^ v).testBit j = true ↔ j = v ∨ (j < 0 ∧ 0 < degN n E j)) := Lib.hid (fun j => by rw [hptv]; simp [eq_comm])
  obtain ⟨qv, hqv⟩ : ∃ q, q = 2 ^ v := ⟨_, rfl⟩
  have HONE : Hid (∀ w : World, Calls Tryd.prog 102 #[.int .i64 (v : Int)] w fun e w' => e = .returned (.int .u32 (qv : Int)) ∧ w = w') := Lib.hid (fun w => by
    have := one_any (v : Int) v rfl hv32 w
    rw [← hqv] at this
    exact this)
  rw [← hqv] at hpv HPV
  clear hx hT hs hi hptv hqv
  go_enter Tryd.func63, Tryd.ntmps63
  go_wp2_with (go_at_call 102; refine (HONE.out _).mono ?_; rintro e w2 ⟨rfl, rfl⟩)
  go_loopw [5, 6, 13] (fun o t i wr => ∃ (k od wi : Nat), o = .int .u32 (od : Int) ∧ t = .int .u32 (wi : Int) ∧ i = .int .i64 k ∧ k ≤ n ∧ od < 65536 ∧ wi < 65536 ∧ Hid (∀ j, od.testBit j = true ↔ j < k ∧ degN n E j % 2 = 1) ∧ Hid (∀ j, wi.testBit j = true ↔ j = v ∨ (j < k ∧ 0 < degN n E j)) ∧ Below w.heap.size w wr) (fun _ _ i _ => n - (intOf i).toNat)
  case atStart => exact ⟨0, 0, qv, rfl, rfl, rfl, Nat.zero_le _, by decide, hpv, Lib.hid (fun j => by simp), HPV, Below.refl _ _⟩
  case round =>
    clear HPV hpv HONE
    obtain ⟨k, od, wi, rfl, rfl, rfl, hk, ho16, hw16, HO, HW, hbel⟩ := hrel
    have HB := Lib.hid hbel
    clear hbel
    by_cases hlt : k < n
    · obtain ⟨cb, co, s, rfl, hcell, hil, hib⟩ := (HX.out.next HB.out).get hlt
      have hdeg := bits_deg h16 hil hib
      have HZ := Lib.hid (bits0_deg h16 hil hib)
      have hdl := degN_le n E k
      have hk32 : k < 32 := by omega
      have hp16 := pow_lt16 k (by omega)
      have hpt : ∀ j, (2 ^ k).testBit j = decide (k = j) := testBit_pow k
      obtain ⟨q, hq⟩ : ∃ q, q = 2 ^ k := ⟨_, rfl⟩
      have HQ : Hid (∀ w : World, Calls Tryd.prog 102 #[.int .i64 (k : Int)] w fun e w' => e = .returned (.int .u32 (q : Int)) ∧ w = w') := Lib.hid (fun w => by
        have := one_any (k : Int) k rfl hk32 w
        rw [← hq] at this
        exact this)
      rw [← hq] at hp16 hpt
      have HPT := Lib.hid hpt
      have hor1 := or_u32 od q ho16 hp16
      have hor2 := or_u32 wi q hw16 hp16
      have hr1 := or_lt16 od q ho16 hp16
      have hr2 := or_lt16 wi q hw16 hp16
      have HR1 : Hid (degN n E k % 2 = 1 → ∀ j, (od ||| q).testBit j = true ↔ j < k + 1 ∧ degN n E j % 2 = 1) := Lib.hid (fun h j => by
        rw [Nat.testBit_or, Bool.or_eq_true_iff, HO.out, HPT.out]
        constructor
        · rintro (⟨h1, h2⟩ | h1)
          · exact ⟨by omega, h2⟩
          · have : k = j := by simpa using h1
            subst this
            exact ⟨by omega, h⟩
        · rintro ⟨h1, h2⟩
          by_cases e : k = j
          · exact .inr (by simp [e])
          · exact .inl ⟨by omega, h2⟩)
      have HR2 : Hid (0 < degN n E k → ∀ j, (wi ||| q).testBit j = true ↔ j = v ∨ (j < k + 1 ∧ 0 < degN n E j)) := Lib.hid (fun h j => by
        rw [Nat.testBit_or, Bool.or_eq_true_iff, HW.out, HPT.out]
        constructor
        · rintro ((h1 | ⟨h1, h2⟩) | h1)
          · exact .inl h1
          · exact .inr ⟨by omega, h2⟩
          · have : k = j := by simpa using h1
            subst this
            exact .inr ⟨by omega, h⟩
        · rintro (h1 | ⟨h1, h2⟩)
          · exact .inl (.inl h1)
          · by_cases e : k = j
            · exact .inr (by simp [e])
            · exact .inl (.inr ⟨by omega, h2⟩))
      have HS1 : Hid (¬ degN n E k % 2 = 1 → ∀ j, od.testBit j = true ↔ j < k + 1 ∧ degN n E j % 2 = 1) := Lib.hid (fun h j => by
        rw [HO.out]
        constructor
        · rintro ⟨h1, h2⟩; exact ⟨by omega, h2⟩
        · rintro ⟨h1, h2⟩
          have : j ≠ k := fun e => h (e ▸ h2)
          exact ⟨by omega, h2⟩)
      have HS2 : Hid (¬ 0 < degN n E k → ∀ j, wi.testBit j = true ↔ j = v ∨ (j < k + 1 ∧ 0 < degN n E j)) := Lib.hid (fun h j => by
        rw [HW.out]
        constructor
        · rintro (h1 | ⟨h1, h2⟩)
          · exact .inl h1
          · exact .inr ⟨by omega, h2⟩
        · rintro (h1 | ⟨h1, h2⟩)
          · exact .inl h1
          · have : j ≠ k := fun e => h (e ▸ h2)
            exact .inr ⟨by omega, h2⟩)
      generalize hr1e : od ||| q = r1 at hor1 hr1 HR1
      generalize hr2e : wi ||| q = r2 at hor2 hr2 HR2
      generalize hdd : degN n E k = d at hdeg hdl HZ HR1 HR2 HS1 HS2
      have hrem : ((d : Int) % 2) = ((d % 2 : Nat) : Int) := by omega
      have htm : Int.tmod (d : Int) 2 = ((d % 2 : Nat) : Int) := by rw [Int.tmod_eq_emod_of_nonneg (by omega)]; omega
      have h01 : d % 2 = 0 ∨ d % 2 = 1 := by omega
      have HDEG := Lib.hid hdeg
      clear hpt hq hib hdd hr1e hr2e
      rcases h01 with h01 | h01
      · rw [h01] at hrem htm
        have HN1 := Lib.hid (HS1.out (by omega))
        by_cases hs0 : s = 0
        · have HN2 := Lib.hid (HS2.out (by have := HZ.out.1 hs0; omega))
          subst hs0
          clear h01 HS1 HS2 HR1 HR2
          go_wp2_with (go_at_call 115; refine (size16_any _ 0 rfl (by decide) _).mono ?_; rintro e w4 ⟨he, qd, rfl⟩; rw [HDEG.out] at he; subst he)
          go_roundw
          case rel => exact ⟨k + 1, od, wi, rfl, rfl, by go_num, by omega, ho16, hw16, HN1, HN2, HB.out.trans ((below_drew _ _).mono HB.out.size)⟩
          case measure => simp [intOf]; omega
        · have HN2 := Lib.hid (HR2.out (by have := HZ.out; omega))
          have hne : ((s : Int) != 0) = true := by simp; omega
          clear h01 HS1 HS2 HR1 HR2 hs0
          go_wp2_with (first
            | (go_at_call 102; refine (HQ.out _).mono ?_; rintro e w2 ⟨rfl, rfl⟩)
            | (go_at_call 115; refine (size16_any _ s rfl hil _).mono ?_; rintro e w4 ⟨he, qd, rfl⟩; rw [HDEG.out] at he; subst he))
          go_roundw
          case rel => exact ⟨k + 1, od, r2, rfl, rfl, by go_num, by omega, ho16, hr2, HN1, HN2, HB.out.trans ((below_drew _ _).mono HB.out.size)⟩
          case measure => simp [intOf]; omega
      · rw [h01] at hrem htm
        have HN1 := Lib.hid (HR1.out h01)
        have HN2 := Lib.hid (HR2.out (by omega))
        have hs0 : s ≠ 0 := fun e => by have := HZ.out.1 e; omega
        have hne : ((s : Int) != 0) = true := by simp; omega
        clear h01 HS1 HS2 HR1 HR2 hs0
        go_wp2_with (first
          | (go_at_call 102; refine (HQ.out _).mono ?_; rintro e w2 ⟨rfl, rfl⟩)
          | (go_at_call 115; refine (size16_any _ s rfl hil _).mono ?_; rintro e w4 ⟨he, qd, rfl⟩; rw [HDEG.out] at he; subst he))
        go_roundw
        case rel => exact ⟨k + 1, r1, r2, rfl, rfl, by go_num, by omega, hr1, hr2, HN1, HN2, HB.out.trans ((below_drew _ _).mono HB.out.size)⟩
        case measure => simp [intOf]; omega
    · obtain rfl : k = n := by omega
      obtain ⟨hba, hb1⟩ := bits_allT h16
      obtain ⟨W, hW⟩ : ∃ W, W = 2 ^ k - 1 := ⟨_, rfl⟩
      have hWb : ∀ i, W.testBit i = decide (i < k) := fun i => by rw [hW]; exact testBit_firstOf k i
      rw [← hW] at hba hb1
      have HWW := Lib.hid hW
      have HBA := Lib.hid hba
      have HW1 : Hid (∀ i, W.testBit i = true → i < k) := Lib.hid (fun i hi => by rw [hWb] at hi; simpa using hi)
      have HWV : Hid (W.testBit v = true) := Lib.hid (by rw [hWb]; simp [hv])
      have HM : Hid (∀ m, m < 65536 → (∀ i, m.testBit i = true ↔ i ∈ partL E (bitsOf W) v) → (m &&& wi = wi ↔ AllR k E v)) := Lib.hid (fun m hm hmb => by
        rw [HBA.out] at hmb
        constructor
        · intro h x hx hd
          have h1 := (HW.out x).2 (.inr ⟨hx, hd⟩)
          rw [← h, Nat.testBit_and] at h1
          exact (mem_partL.1 ((hmb x).1 (Bool.and_eq_true_iff.1 h1).1)).2
        · intro h
          refine Nat.eq_of_testBit_eq fun j => ?_
          rw [Nat.testBit_and]
          cases hj : wi.testBit j
          · simp
          · have : m.testBit j = true := (hmb j).2 (mem_partL.2 (by
              rcases (HW.out j).1 hj with h1 | ⟨h1, h2⟩
              · subst h1; exact ⟨List.mem_range.2 hv, .base⟩
              · exact ⟨List.mem_range.2 h1, h j h1 h2⟩))
            simp [this])
      have HOL : Hid ((bitsOf od).length = oddsN k E k) := Lib.hid (by
        have : bitsOf od = (List.range k).filter fun v => degN k E v % 2 == 1 := rising_ext _ _ (bitsOf_rising _) (List.Pairwise.filter _ List.pairwise_lt_range) fun x => by
          rw [mem_left ho16, HO.out, List.mem_filter, List.mem_range]
          simp
        rw [this]
        unfold oddsN
        rw [List.countP_eq_length_filter])
      have HO0 : Hid (od = 0 ↔ oddsN k E k = 0) := Lib.hid (by
        rw [← HOL.out]
        constructor
        · intro h; subst h; rfl
        · intro h
          have h1 : bitsOf od = [] := List.eq_nil_of_length_eq_zero h
          rw [← mask_bitsOf ho16, h1]
          rfl)
      have HOV : Hid (od.testBit v = dec (oddV k E v)) := Lib.hid (by
        rw [Bool.eq_iff_iff, HO.out, dec_iff]
        exact ⟨fun h => h.2, fun h => ⟨hv, h⟩⟩)
      have hol := oddsN_le k E k
      have HXn := Lib.hid (HX.out.next HB.out)
      have HTn := Lib.hid (HT.out.keep HB.out)
      obtain ⟨c, hc⟩ : ∃ c, c = oddsN k E k := ⟨_, rfl⟩
      rw [← hc] at hol HTR HOL HO0 HEV
      have hzl := HOL.out
      clear hc hba hW hWb HX HT
      by_cases hA : AllR k E v
      · by_cases hc0 : c = 0
        · have hd := Lib.hid (dec_true (HTR.out.2 ⟨hA, by omega, .inl hc0⟩))
          have HA := Lib.hid hA
          have ho0 := HO0.out.2 hc0
          subst ho0
          clear hA hol hzl
          go_wp2_with (first
            | (go_at_call 100; refine (reach_any _ _ _ k E v W rfl rfl hb1 HW1.out HWV.out _ HXn.out HTn.out).mono ?_; rintro e w6 ⟨m, rfl, hm16, hmb, hb6⟩; have hand := u32_and_nat m wi (Nat.lt_trans hm16 (by decide)) (Nat.lt_trans hw16 (by decide)); rw [(HM.out m hm16 hmb).2 HA.out] at hand; clear hmb)
            | (go_at_call 60; refine (all_any _ _ _ (by omega) _).mono ?_; rintro e wA ⟨he, rfl⟩; rw [← HWW.out] at he; subst he))
          go_ret
          exact ⟨by rw [hd.out]; first | done | rfl, HB.out.trans (hb6.mono HB.out.size)⟩
        · have hne0 : ((od : Int) == 0) = false := by have := HO0.out; simp; omega
          by_cases hc2 : c = 2
          · have hlen2 : (bitsOf od).length = 2 := by rw [hzl, hc2]
            have HL2 := Lib.hid hlen2
            have HD : Hid (od.testBit v = dec (Tr k E v)) := Lib.hid (by
              rw [HOV.out]
              refine dec_congr ⟨fun h => HTR.out.2 ⟨hA, by omega, .inr h⟩, fun h => ?_⟩
              rcases (HTR.out.1 h).2.2 with h1 | h1
              · exact absurd h1 hc0
              · exact h1)
            have HA := Lib.hid hA
            clear hA hol hzl hlen2
            cases hbv : dec (Tr k E v)
            all_goals
              rw [hbv] at HD
              have HBV := Lib.hid hbv
              clear hbv
              go_wp2_with (first
                | (go_at_call 101; refine (has_any _ _ od v rfl rfl (by omega) hv32 _).mono ?_; rintro e w8 ⟨he, rfl⟩; rw [HD.out] at he; subst he)
                | (go_at_call 115; refine (size16_any _ od rfl ho16 _).mono ?_; rintro e w7 ⟨he, qd, rfl⟩; rw [HL2.out] at he; subst he)
                | (go_at_call 100; refine (reach_any _ _ _ k E v W rfl rfl hb1 HW1.out HWV.out _ HXn.out HTn.out).mono ?_; rintro e w6 ⟨m, rfl, hm16, hmb, hb6⟩; have hand := u32_and_nat m wi (Nat.lt_trans hm16 (by decide)) (Nat.lt_trans hw16 (by decide)); rw [(HM.out m hm16 hmb).2 HA.out] at hand; clear hmb)
                | (go_at_call 60; refine (all_any _ _ _ (by omega) _).mono ?_; rintro e wA ⟨he, rfl⟩; rw [← HWW.out] at he; subst he))
              go_ret
              exact ⟨by rw [HBV.out]; first | done | rfl, (HB.out.trans (hb6.mono HB.out.size)).trans ((below_drew _ _).mono (Nat.le_trans HB.out.size hb6.size))⟩
          · have hd := Lib.hid (dec_false (fun h => by
              have h1 := (HTR.out.1 h).2.1
              have h2 := HEV.out
              omega))
            have HA := Lib.hid hA
            have hln : (((bitsOf od).length : Int) == 2) = false := by rw [hzl]; simp; omega
            obtain ⟨L, hL⟩ : ∃ L, L = (bitsOf od).length := ⟨_, rfl⟩
            rw [← hL] at hln
            have HLL := Lib.hid hL
            clear hA hol hzl hL
            go_wp2_with (first
              | (go_at_call 115; refine (size16_any _ od rfl ho16 _).mono ?_; rintro e w7 ⟨he, qd, rfl⟩; rw [← HLL.out] at he; subst he)
              | (go_at_call 100; refine (reach_any _ _ _ k E v W rfl rfl hb1 HW1.out HWV.out _ HXn.out HTn.out).mono ?_; rintro e w6 ⟨m, rfl, hm16, hmb, hb6⟩; have hand := u32_and_nat m wi (Nat.lt_trans hm16 (by decide)) (Nat.lt_trans hw16 (by decide)); rw [(HM.out m hm16 hmb).2 HA.out] at hand; clear hmb)
              | (go_at_call 60; refine (all_any _ _ _ (by omega) _).mono ?_; rintro e wA ⟨he, rfl⟩; rw [← HWW.out] at he; subst he))
            go_ret
            exact ⟨by rw [hd.out]; first | done | rfl, (HB.out.trans (hb6.mono HB.out.size)).trans ((below_drew _ _).mono (Nat.le_trans HB.out.size hb6.size))⟩
      · have hd := Lib.hid (dec_false (fun h => hA (HTR.out.1 h).1))
        have HA := Lib.hid hA
        clear hA hol hzl
        go_wp2_with (first
          | (go_at_call 100; refine (reach_any _ _ _ k E v W rfl rfl hb1 HW1.out HWV.out _ HXn.out HTn.out).mono ?_; rintro e w6 ⟨m, rfl, hm16, hmb, hb6⟩; have hand := u32_and_nat m wi (Nat.lt_trans hm16 (by decide)) (Nat.lt_trans hw16 (by decide)); have hne : m &&& wi ≠ wi := (fun e => HA.out ((HM.out m hm16 hmb).1 e)); obtain ⟨z, hz⟩ : ∃ z, z = m &&& wi := ⟨_, rfl⟩; rw [← hz] at hand hne; have hne' : ((z : Int) == (wi : Int)) = false := (by simp; omega); clear hmb hz)
          | (go_at_call 60; refine (all_any _ _ _ (by omega) _).mono ?_; rintro e wA ⟨he, rfl⟩; rw [← HWW.out] at he; subst he))
        go_ret
        exact ⟨by rw [hd.out]; first | done | rfl, HB.out.trans (hb6.mono HB.out.size)⟩

end Go.Proofs.YtjdlmjmhlbpooaaDoor
