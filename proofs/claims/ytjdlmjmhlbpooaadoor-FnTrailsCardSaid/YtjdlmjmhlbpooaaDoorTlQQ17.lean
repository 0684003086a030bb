/- Walk: what is reached among sets (the reference's l27Part). -/
import Derived.Test.YtjdlmjmhlbpooaaDoorTlQQ16
namespace Go.Proofs.YtjdlmjmhlbpooaaDoor
open Go.RowKit

/-- Reached among W, and closed for the first k. -/
structure PtJ (n : Nat) (E : Nat → Nat → Bool) (W v a : Nat) : Prop where
  lt : a < 65536
  frm : a.testBit v = true
  rch : ∀ j, a.testBit j = true → Rch E (· ∈ bitsOf W) v j
def ClTo (E : Nat → Nat → Bool) (W a k : Nat) : Prop := ∀ r j, r < k → a.testBit r = true → j ∈ bitsOf W → E r j = true → a.testBit j = true
theorem ClTo.no {E : Nat → Nat → Bool} {W a k : Nat} (h : ClTo E W a k) (hk : a.testBit k = false) : ClTo E W a (k + 1) := by
  intro r j hr ha hj hE
  by_cases e : r = k
  · subst e; rw [hk] at ha; exact absurd ha (by decide)
  · exact h r j (by omega) ha hj hE
theorem PtJ.end {n : Nat} {E : Nat → Nat → Bool} {W v a : Nat} (h : PtJ n E W v a) (hc : ClTo E W a n) (hv : v < n) (hW : ∀ i, i ∈ bitsOf W → i < n) : ∀ i, a.testBit i = true ↔ Rch E (· ∈ bitsOf W) v i := by
  intro i
  refine ⟨h.rch i, fun hr => ?_⟩
  refine rch_closed (T := fun i => i < n ∧ a.testBit i = true) ⟨hv, h.frm⟩ (fun x y hx hE hy => ⟨hW y hy, hc x y hx.1 hx.2 hy hE⟩) i hr |>.2
theorem nearP_bit {n : Nat} {E : Nat → Nat → Bool} {s W k : Nat} (hb : ∀ j, s.testBit j = (decide (j < n) && E k j)) (hW16 : W < 65536) (hW : ∀ i, i ∈ bitsOf W → i < n) (j : Nat) : (s &&& W).testBit j = true ↔ j ∈ bitsOf W ∧ E k j = true := by
  rw [Nat.testBit_and, hb, mem_left hW16]
  constructor
  · intro h
    simp only [Bool.and_eq_true, decide_eq_true_eq] at h
    exact ⟨h.2, h.1.2⟩
  · rintro ⟨h1, h2⟩
    have := hW j ((mem_left hW16).2 h1)
    simp [h1, h2, this]

def flagV (m : Value) : Nat := match m with | .bool true => 1 | _ => 0

set_option maxRecDepth 100000 in
set_option maxHeartbeats 4000000 in
theorem l27Part_any (x : Value) (y z : Int) (n : Nat) (E : Nat → Nat → Bool) (v W : Nat) (hy : y = v) (hz : z = W) (hn : n ≤ 16) (hv : v < n) (hW : W < 65536) (hWn : ∀ i, i ∈ bitsOf W → i < n) (w : World) (hx : Sl w 2 x n ((indN n E).map i64v)) :
    Calls Tryd.prog 112 #[x, .int .i64 y, .int .i64 z] w fun e w' => ∃ m : Nat, e = .returned (.int .i64 (m : Int)) ∧ m < 65536 ∧ (∀ i, m.testBit i = true ↔ Rch E (· ∈ bitsOf W) v i) ∧ w = w' := by
  subst hy; subst hz
  obtain ⟨xp, xc, rfl⟩ : ∃ p c, x = .slice p n c := by obtain ⟨p, c, e, _⟩ := hx; exact ⟨p, c, e⟩
  have hwp := wrap_pow v (by omega)
  have hp16 := pow_lt16 v (by omega)
  have hpt : ∀ j, (2 ^ v).testBit j = decide (v = j) := testBit_pow v
  have START : Hid (PtJ n E W v (2 ^ v)) := Lib.hid ⟨hp16, by rw [hpt]; simp, fun j hj => by
    rw [hpt] at hj
    have : v = j := by simpa using hj
    subst this
    exact .base⟩
  obtain ⟨q, hq⟩ : ∃ q, q = 2 ^ v := ⟨_, rfl⟩
  rw [← hq] at hwp START
  have HX := Lib.hid hx
  have HWN := Lib.hid hWn
  clear hp16 hpt hq hx hWn
  go_enter Tryd.func112, Tryd.ntmps112
  go_wp2
  go_loopw [7, 8] (fun p m wr => ∃ (a : Nat) (b : Bool), p = .int .i64 a ∧ m = .bool b ∧ Hid (PtJ n E W v a) ∧ Hid (b = false → ClTo E W a n) ∧ wr = w)
    (fun p m _ => 2 * (40 - (bitsOf (intOf p).toNat).length) + flagV m)
  case atStart => exact ⟨q, true, by rw [hwp], rfl, START, Lib.hid (fun h => by cases h), rfl⟩
  case round =>
    clear START hwp
    obtain ⟨a0, b0, rfl, rfl, HP0, HC0, rfl⟩ := hrel
    cases b0
    · go_wp2
      go_ret
      exact ⟨a0, rfl, HP0.out.lt, HP0.out.end (HC0.out trivial) hv HWN.out, rfl⟩
    · clear HC0
      obtain ⟨wo, rfl⟩ : ∃ wo, wo = wr := ⟨_, rfl⟩
      go_wp2
      go_loopw [7, 8, 9] (fun p m i wx => ∃ (a k : Nat) (b : Bool), p = .int .i64 a ∧ m = .bool b ∧ i = .int .i64 k ∧ k ≤ n ∧ Hid (PtJ n E W v a) ∧ Hid (b = false → a = a0 ∧ ClTo E W a k) ∧ Hid (b = true → (bitsOf a0).length < (bitsOf a).length) ∧ Hid (∀ i, a0.testBit i = true → a.testBit i = true) ∧ wx = wo)
        (fun _ _ i _ => n - (intOf i).toNat)
      case atStart => exact ⟨a0, 0, false, rfl, rfl, rfl, Nat.zero_le _, HP0, Lib.hid (fun _ => ⟨rfl, fun r j hr => absurd hr (Nat.not_lt_zero _)⟩), Lib.hid (fun h => by cases h), Lib.hid (fun _ h => h), rfl⟩
      case round =>
        obtain ⟨a, k, b, rfl, rfl, rfl, hk, HP, HF, HT, HS, rfl⟩ := hrel
        by_cases hlt : k < n
        · have hbit := shrB_bit a k HP.out.lt
          have hkl : k < (indN n E).length := by rw [indN_length]; exact hlt
          obtain ⟨cb, co, rfl, hcell⟩ := i64_cell (a := indN n E) (by rw [indN_length]; exact HX.out) hkl
          have hib := indN_bit (E := E) hlt
          have hil := indN_lt16 (E := E) hn _ (List.getElem_mem hkl)
          have e : (indN n E).getD k 0 = (indN n E)[k] := by simp [hkl]
          rw [e] at hib
          generalize (indN n E)[k] = s at hcell hib hil
          have HNB := Lib.hid (nearP_bit (k := k) hib hW HWN.out)
          have HX' := HX
          clear e hib
          cases hab : a.testBit k
          · rw [hab] at hbit
            simp only [Bool.false_eq_true, if_false, Int.natCast_zero] at hbit
            have HAB := Lib.hid hab
            clear hab
            go_wp2
            go_roundw
            case rel => exact ⟨a, k + 1, b, rfl, rfl, by go_num, by omega, HP, Lib.hid (fun h => ⟨(HF.out h).1, (HF.out h).2.no HAB.out⟩), HT, HS, trivial⟩
            case measure => simp [intOf]; omega
          · rw [hab] at hbit
            simp only [if_true, Int.natCast_one] at hbit
            have HAB := Lib.hid hab
            clear hab
            have ha16 := HP.out.lt
            have hand := i64_and_nat s W (Nat.lt_trans hil (by decide)) (Nat.lt_trans hW (by decide))
            have hx16 := and_lt16 s W hil
            generalize hxx : s &&& W = t at hand hx16 HNB
            have hnot := i64_andNot_nat t a (Nat.lt_trans hx16 (by decide)) (Nat.lt_trans ha16 (by decide))
            have hst := testBit_sub t a (Nat.lt_trans hx16 (by decide)) (Nat.lt_trans ha16 (by decide))
            generalize hyy : sub t a = d at hnot hst
            have HST := Lib.hid hst
            clear hxx hyy hst
            by_cases hd : d = 0
            · subst hd
              have HCL : Hid (∀ j, j ∈ bitsOf W → E k j = true → a.testBit j = true) := Lib.hid (fun j hj hE => by
                have h1 := (HNB.out j).2 ⟨hj, hE⟩
                have h2 := HST.out j
                rw [h1] at h2
                simpa using h2)
              go_wp2
              go_roundw
              case rel => exact ⟨a, k + 1, b, rfl, rfl, by go_num, by omega, HP, Lib.hid (fun h => ⟨(HF.out h).1, fun r j hr ha hj hE => by
                  by_cases e : r = k
                  · subst e; exact HCL.out j hj hE
                  · exact (HF.out h).2 r j (by omega) ha hj hE⟩), HT, HS, trivial⟩
              case measure => simp [intOf]; omega
            · have hd' : ((d : Int) != 0) = true := by simp; omega
              have hor := i64_or_nat a t (Nat.lt_trans ha16 (by decide)) (Nat.lt_trans hx16 (by decide))
              have hor16 := or_lt16 a t ha16 hx16
              have hot : ∀ j, (a ||| t).testBit j = (a.testBit j || t.testBit j) := fun j => Nat.testBit_or ..
              generalize a ||| t = r at hor hor16 hot
              have HOT := Lib.hid hot
              have HPR : Hid (PtJ n E W v r) := Lib.hid ⟨hor16, by rw [hot, HP.out.frm]; rfl, fun j hj => by
                rw [HOT.out] at hj
                rcases Bool.or_eq_true_iff.1 hj with h | h
                · exact HP.out.rch j h
                · obtain ⟨h1, h2⟩ := (HNB.out j).1 h
                  exact .step (HP.out.rch k HAB.out) h2 h1⟩
              have HGR : Hid ((bitsOf a).length < (bitsOf r).length) := Lib.hid (by
                refine bits_len_lt ha16 hor16 (fun i hi => by rw [HOT.out, hi]; rfl) fun e => hd ?_
                refine Nat.eq_of_testBit_eq fun j => ?_
                have h1 := HOT.out j
                rw [← e] at h1
                rw [HST.out, Nat.zero_testBit]
                clear HST HOT
                revert h1
                generalize a.testBit j = b1
                generalize t.testBit j = b2
                cases b1 <;> cases b2 <;> decide)
              have HGE : Hid ((bitsOf a0).length ≤ (bitsOf a).length) := Lib.hid (by
                cases b
                · rw [(HF.out rfl).1]; exact Nat.le_refl _
                · exact Nat.le_of_lt (HT.out rfl))
              clear hot hd
              go_wp2
              go_roundw
              case rel => exact ⟨r, k + 1, true, rfl, rfl, by go_num, by omega, HPR, Lib.hid (fun h => by cases h), Lib.hid (fun _ => Nat.lt_of_le_of_lt HGE.out HGR.out), Lib.hid (fun i hi => by rw [HOT.out, HS.out i hi]; rfl), trivial⟩
              case measure => simp [intOf]; omega
        · obtain rfl : k = n := by omega
          go_wp2
          go_roundw
          case rel => exact ⟨a, b, rfl, rfl, HP, Lib.hid (fun h => (HF.out h).2), trivial⟩
          case measure =>
            have h32 := bitsOf_length a
            cases b
            · have := (HF.out rfl).1
              subst this
              simp [intOf, flagV]
            · have := HT.out rfl
              simp [intOf, flagV]
              omega

end Go.Proofs.YtjdlmjmhlbpooaaDoor

/- Walk: whether one can go from a vertex along all edges that are left (the reference's l28Goes). -/
namespace Go.Proofs.YtjdlmjmhlbpooaaDoor
open Go.RowKit

theorem bits_allT {n : Nat} (hn : n ≤ 16) : bitsOf (2 ^ n - 1) = List.range n ∧ 2 ^ n - 1 < 65536 := by
  have h16 : 2 ^ n - 1 < 65536 := by
    have : 2 ^ n ≤ 2 ^ 16 := Nat.pow_le_pow_right (by decide) hn
    have h2 : (2 : Nat) ^ 16 = 65536 := by decide
    have : 0 < 2 ^ n := Nat.pow_pos (by decide)
    omega
  refine ⟨rising_ext _ _ (bitsOf_rising _) List.pairwise_lt_range fun i => ?_, h16⟩
  rw [mem_left h16, testBit_firstOf]
  simp

set_option maxRecDepth 100000 in
set_option maxHeartbeats 4000000 in
theorem l28Goes_any (x : Value) (y : Int) (n : Nat) (E : Nat → Nat → Bool) (hs : ∀ r j, E r j = true → E j r = true) (hi : ∀ r, E r r = false) (v : Nat) (hy : y = v) (hn : n ≤ 16) (hv : v < n) (w : World) (hx : Sl w 2 x n ((indN n E).map i64v)) :
    Calls Tryd.prog 54 #[x, .int .i64 y] w fun e w' => e = .returned (.bool (dec (Tr n E v))) ∧ w = w' := by
  subst hy
  obtain ⟨xp, xc, rfl⟩ : ∃ p c, x = .slice p n c := by obtain ⟨p, c, e, _⟩ := hx; exact ⟨p, c, e⟩
  have HX := Lib.hid hx
  have HTR := Lib.hid (tr_two (n := n) (v := v) hs hi hv)
  clear hx hs hi
  go_enter Tryd.func54, Tryd.ntmps54
  go_wp2
  go_loopw [5, 6, 7] (fun o e i wr => ∃ (k b : Nat), o = .int .i64 (oddsN n E k : Nat) ∧ e = .int .i64 (b : Int) ∧ i = .int .i64 k ∧ k ≤ n ∧ b < 65536 ∧ Hid (∀ j, b.testBit j = true ↔ j < k ∧ 0 < degN n E j) ∧ wr = w) (fun _ _ i _ => n - (intOf i).toNat)
  case atStart => exact ⟨0, 0, by rw [oddsN_zero]; rfl, rfl, rfl, Nat.zero_le _, by decide, Lib.hid (fun j => by simp), rfl⟩
  case round =>
    obtain ⟨k, b, rfl, rfl, rfl, hk, hb16, HB, rfl⟩ := hrel
    by_cases hlt : k < n
    · have hkl : k < (indN n E).length := by rw [indN_length]; exact hlt
      obtain ⟨cb, co, rfl, hcell⟩ := i64_cell (a := indN n E) (by rw [indN_length]; exact HX.out) hkl
      have hib := indN_bit (E := E) hlt
      have hil := indN_lt16 (E := E) hn _ (List.getElem_mem hkl)
      have e : (indN n E).getD k 0 = (indN n E)[k] := by simp [hkl]
      rw [e] at hib
      generalize (indN n E)[k] = s at hcell hib hil
      have hdeg := bits_deg hn hil hib
      have hdl := degN_le n E k
      have hso := Lib.hid (oddsN_succ n E k)
      have hol := oddsN_le n E k
      have HX' := HX
      have hs0 : s = 0 ↔ degN n E k = 0 := by
        rw [← hdeg]
        constructor
        · intro h; subst h; rfl
        · intro h
          have h1 : bitsOf s = [] := List.eq_nil_of_length_eq_zero h
          rw [← mask_bitsOf hil, h1]
          rfl
      generalize hdd : degN n E k = d at hdeg hdl hso hs0
      generalize hoo : oddsN n E k = c at hso hol
      have HDD := Lib.hid hdd
      clear e hib hdd hoo
      have h2 : d % 2 < 2 := Nat.mod_lt _ (by decide)
      have hrem : ((d : Int) % 2) = ((d % 2 : Nat) : Int) := by omega
      have htm : Int.tmod (d : Int) 2 = ((d % 2 : Nat) : Int) := by rw [Int.tmod_eq_emod_of_nonneg (by omega)]; omega
      generalize hee : d % 2 = e at h2 hrem htm hso
      by_cases hz : s = 0
      · have hd0 := hs0.1 hz
        have HD0 := Lib.hid hd0
        subst hz
        clear hs0 hd0
        go_wp2_with (go_at_call 111; refine (l25Many_any _ 0 rfl hil _).mono ?_; rintro e1 w2 ⟨he1, rfl⟩; rw [hdeg] at he1; subst he1)
        go_roundw
        case rel => exact ⟨k + 1, b, by rw [hso.out]; exact val_int (by omega), rfl, by go_num, by omega, hb16, Lib.hid (fun j => by
            rw [HB.out]
            constructor
            · rintro ⟨h1, h2⟩; exact ⟨by omega, h2⟩
            · rintro ⟨h1, h2⟩
              refine ⟨?_, h2⟩
              have : j ≠ k := fun e => by subst e; have := HDD.out; have := HD0.out; omega
              omega), trivial⟩
        case measure => simp [intOf]; omega
      · have hpos : (0 : Int) < (s : Int) := by omega
        have HDP : Hid (0 < degN n E k) := Lib.hid (by rw [HDD.out]; have := hs0.2; omega)
        have hwp := wrap_pow k (by omega)
        have hp16 := pow_lt16 k (by omega)
        have hpt : ∀ j, (2 ^ k).testBit j = decide (k = j) := testBit_pow k
        obtain ⟨q, hq⟩ : ∃ q, q = 2 ^ k := ⟨_, rfl⟩
        rw [← hq] at hp16 hpt hwp
        have hor := i64_or_nat b q (Nat.lt_trans hb16 (by decide)) (Nat.lt_trans hp16 (by decide))
        have hor16 := or_lt16 b q hb16 hp16
        have hot : ∀ j, (b ||| q).testBit j = (b.testBit j || q.testBit j) := fun j => Nat.testBit_or ..
        generalize b ||| q = r at hor hor16 hot
        have HR : Hid (∀ j, r.testBit j = true ↔ j < k + 1 ∧ 0 < degN n E j) := Lib.hid (fun j => by
          rw [hot, hpt, Bool.or_eq_true_iff, HB.out]
          constructor
          · rintro (⟨h1, h2⟩ | h1)
            · exact ⟨by omega, h2⟩
            · have : k = j := by simpa using h1
              subst this
              exact ⟨by omega, HDP.out⟩
          · rintro ⟨h1, h2⟩
            by_cases e : k = j
            · exact .inr (by simp [e])
            · exact .inl ⟨by omega, h2⟩)
        clear hot hpt hq hs0 hz
        go_wp2_with (go_at_call 111; refine (l25Many_any _ s rfl hil _).mono ?_; rintro e1 w2 ⟨he1, rfl⟩; rw [hdeg] at he1; subst he1)
        go_roundw
        case rel => exact ⟨k + 1, r, by rw [hso.out]; exact val_int (by omega), rfl, by go_num, by omega, hor16, HR, trivial⟩
        case measure => simp [intOf]; omega
    · obtain rfl : k = n := by omega
      have hol := oddsN_le k E k
      obtain ⟨hba, hb1⟩ := bits_allT hn
      have hwp := wrap_pow k (by omega)
      have hpp : 0 < 2 ^ k := Nat.pow_pos (by decide)
      obtain ⟨q, hq⟩ : ∃ q, q = 2 ^ k := ⟨_, rfl⟩
      rw [← hq] at hba hb1 hwp hpp
      obtain ⟨W, hW⟩ : ∃ W, W = q - 1 := ⟨_, rfl⟩
      rw [← hW] at hba hb1
      have hqW : (q : Int) = (W : Int) + 1 := by omega
      have hwp2 : wrap64 (2 ^ k) = (W : Int) + 1 := by rw [hwp, hqW]
      have HBA := Lib.hid hba
      clear hwp hW hq hpp hqW hba
      have HM : Hid (∀ m, m < 65536 → (∀ i, m.testBit i = true ↔ Rch E (· ∈ bitsOf W) v i) → (sub b m = 0 ↔ AllR k E v)) := Lib.hid (fun m hm hmb => by
        rw [HBA.out] at hmb
        have hst := testBit_sub b m (Nat.lt_trans hb16 (by decide)) (Nat.lt_trans hm (by decide))
        constructor
        · intro h x hx hd
          have h1 := (HB.out x).2 ⟨hx, hd⟩
          have h2 := hst x
          rw [h, h1, Nat.zero_testBit] at h2
          exact (hmb x).1 (by simpa using h2.symm)
        · intro h
          refine Nat.eq_of_testBit_eq fun j => ?_
          rw [hst, Nat.zero_testBit]
          cases hj : b.testBit j
          · rfl
          · obtain ⟨h1, h2⟩ := (HB.out j).1 hj
            rw [(hmb j).2 (h j h1 h2)]
            rfl)
      have HWN : Hid (∀ i, i ∈ bitsOf W → i < k) := Lib.hid (fun i hi => by rw [HBA.out] at hi; exact List.mem_range.1 hi)
      obtain ⟨c, hc⟩ : ∃ c, c = oddsN k E k := ⟨_, rfl⟩
      rw [← hc] at hol HTR ⊢
      have HCC := Lib.hid hc
      clear hc
      by_cases hb0 : b = 0
      · have HD : Hid (∀ x, x < k → ¬ 0 < degN k E x) := Lib.hid (fun x hx hd => by
          have := (HB.out x).2 ⟨hx, hd⟩
          rw [hb0, Nat.zero_testBit] at this
          exact absurd this (by decide))
        have hc0 : c = 0 := by
          rw [HCC.out]
          refine countP_none fun y hy hp => HD.out y (List.mem_range.1 hy) ?_
          have : degN k E y % 2 = 1 := by simpa using hp
          omega
        have hd := Lib.hid (dec_true (HTR.out.2 ⟨fun x hx hd => absurd hd (HD.out x hx), by omega, .inl hc0⟩))
        subst hb0
        subst hc0
        clear hol
        go_wp2
        go_ret
        exact ⟨by rw [hd.out]; first | done | rfl, rfl⟩
      · have hbp : ((b : Int) == 0) = false := by simp; omega
        by_cases hA : AllR k E v
        · by_cases hc2 : c ≤ 2
          · by_cases hc0 : c = 0
            · have hd := Lib.hid (dec_true (HTR.out.2 ⟨hA, hc2, .inl hc0⟩))
              have HA := Lib.hid hA
              subst hc0
              clear hA hol hc2 hb0
              go_wp2_with (go_at_call 112; refine (l27Part_any _ _ _ k E v W rfl (by omega) hn hv hb1 HWN.out _ HX.out).mono ?_; rintro e1 w2 ⟨m, rfl, hm16, hmb, rfl⟩; have hnot := i64_andNot_nat b m (Nat.lt_trans hb16 (by decide)) (Nat.lt_trans hm16 (by decide)); rw [(HM.out m hm16 hmb).2 HA.out] at hnot; clear hmb)
              go_ret
              exact ⟨by rw [hd.out]; first | done | rfl, rfl⟩
            · have hkl : v < (indN k E).length := by rw [indN_length]; exact hv
              obtain ⟨cb, co, rfl, hcell⟩ := i64_cell (a := indN k E) (by rw [indN_length]; exact HX.out) hkl
              have hib := indN_bit (E := E) hv
              have hil := indN_lt16 (E := E) hn _ (List.getElem_mem hkl)
              have e : (indN k E).getD v 0 = (indN k E)[v] := by simp [hkl]
              rw [e] at hib
              generalize (indN k E)[v] = s at hcell hib hil
              have hdeg := bits_deg hn hil hib
              have hdl := degN_le k E v
              have hov : oddV k E v ↔ degN k E v % 2 = 1 := Iff.rfl
              generalize degN k E v = d at hdeg hdl hov
              have hrem : ((d : Int) % 2) = ((d % 2 : Nat) : Int) := by omega
              have htm : Int.tmod (d : Int) 2 = ((d % 2 : Nat) : Int) := by rw [Int.tmod_eq_emod_of_nonneg (by omega)]; omega
              have hc0' : ((c : Int) == 0) = false := by simp; omega
              have HA := Lib.hid hA
              have h01 : d % 2 = 0 ∨ d % 2 = 1 := by omega
              have HOV := Lib.hid hov
              clear hA hol hb0 hib e hov
              rcases h01 with h01 | h01
              · have hd := Lib.hid (dec_false (fun h => by
                  rcases (HTR.out.1 h).2.2 with h1 | h1
                  · exact hc0 h1
                  · have := HOV.out.1 h1
                    omega))
                rw [h01] at hrem htm
                have H01 := Lib.hid h01
                clear h01 hc0
                go_wp2_with (first
                  | (go_at_call 111; refine (l25Many_any _ s rfl hil _).mono ?_; rintro e1 w3 ⟨he1, rfl⟩; rw [hdeg] at he1; subst he1)
                  | (go_at_call 112; refine (l27Part_any _ _ _ k E v W rfl (by omega) hn hv hb1 HWN.out _ HX.out).mono ?_; rintro e1 w2 ⟨m, rfl, hm16, hmb, rfl⟩; have hnot := i64_andNot_nat b m (Nat.lt_trans hb16 (by decide)) (Nat.lt_trans hm16 (by decide)); rw [(HM.out m hm16 hmb).2 HA.out] at hnot; clear hmb))
                go_ret
                exact ⟨by rw [hd.out]; first | done | rfl, rfl⟩
              · have hd := Lib.hid (dec_true (HTR.out.2 ⟨HA.out, hc2, .inr (HOV.out.2 h01)⟩))
                rw [h01] at hrem htm
                have H01 := Lib.hid h01
                clear h01 hc0
                go_wp2_with (first
                  | (go_at_call 111; refine (l25Many_any _ s rfl hil _).mono ?_; rintro e1 w3 ⟨he1, rfl⟩; rw [hdeg] at he1; subst he1)
                  | (go_at_call 112; refine (l27Part_any _ _ _ k E v W rfl (by omega) hn hv hb1 HWN.out _ HX.out).mono ?_; rintro e1 w2 ⟨m, rfl, hm16, hmb, rfl⟩; have hnot := i64_andNot_nat b m (Nat.lt_trans hb16 (by decide)) (Nat.lt_trans hm16 (by decide)); rw [(HM.out m hm16 hmb).2 HA.out] at hnot; clear hmb))
                go_ret
                exact ⟨by rw [hd.out]; first | done | rfl, rfl⟩
          · have hd := Lib.hid (dec_false (fun h => hc2 (HTR.out.1 h).2.1))
            have HA := Lib.hid hA
            clear hA hb0
            go_wp2_with (go_at_call 112; refine (l27Part_any _ _ _ k E v W rfl (by omega) hn hv hb1 HWN.out _ HX.out).mono ?_; rintro e1 w2 ⟨m, rfl, hm16, hmb, rfl⟩; have hnot := i64_andNot_nat b m (Nat.lt_trans hb16 (by decide)) (Nat.lt_trans hm16 (by decide)); rw [(HM.out m hm16 hmb).2 HA.out] at hnot; clear hmb)
            go_ret
            exact ⟨by rw [hd.out]; first | done | rfl, rfl⟩
        · have hd := Lib.hid (dec_false (fun h => hA (HTR.out.1 h).1))
          have HA := Lib.hid hA
          clear hA hb0
          go_wp2_with (go_at_call 112; refine (l27Part_any _ _ _ k E v W rfl (by omega) hn hv hb1 HWN.out _ HX.out).mono ?_; rintro e1 w2 ⟨m, rfl, hm16, hmb, rfl⟩; have hnot := i64_andNot_nat b m (Nat.lt_trans hb16 (by decide)) (Nat.lt_trans hm16 (by decide)); have hne : sub b m ≠ 0 := (fun e => HA.out ((HM.out m hm16 hmb).1 e)); have hne' : (((sub b m : Nat) : Int) != 0) = true := (by simpa using hne); clear hmb)
          go_ret
          exact ⟨by rw [hd.out]; first | done | rfl, rfl⟩

end Go.Proofs.YtjdlmjmhlbpooaaDoor
