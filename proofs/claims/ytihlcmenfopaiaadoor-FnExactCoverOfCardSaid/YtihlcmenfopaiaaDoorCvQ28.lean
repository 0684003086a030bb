/- Walks: chooseSets, for a cover. -/
import Derived.Test.YtihlcmenfopaiaaDoorCvQ27
namespace Go.Proofs.YtihlcmenfopaiaaDoor
open Go.RowKit

theorem ch_yes_no {P : Nat → Prop} {n lo many chosen : Nat} (h : ChNo P n lo many chosen) : ¬ ∃ s, ChYes P n lo many chosen s := by
  rintro ⟨s, T, h1, h2, h3, _⟩
  exact h T h1 (h2 ▸ h3)
theorem or_one {c v n : Nat} (hc : c < 2 ^ n) (hv : v < n) : c ||| 2 ^ v < 2 ^ n := Nat.or_lt_two_pow hc (Nat.pow_lt_pow_right (by decide) hv)

/-- What chooseSets leaves. -/
def ChV (n : Nat) (S : List (List Int)) (wB : World) (ba lo many chosen : Nat) (e : Ending) (w' : World) : Prop :=
  e = .returned (.bool (dec (∃ s, ChYes (CovN S) n lo many chosen s))) ∧ ∃ z' : Int, CvW wB ba z' w' ∧ ((∃ s : Nat, z' = s ∧ ChYes (CovN S) n lo many chosen s) ∨ ChNo (CovN S) n lo many chosen)

set_option maxRecDepth 100000 in
set_option maxHeartbeats 4000000 in
theorem chooseSets_any (n : Nat) (S : List (List Int)) (sp : Option Addr) (sc ba : Nat) (wB : World) (hB : CvBase wB n S sp sc ba) : ∀ (many lo chosen : Nat) (yl ym yc : Int), yl = lo → ym = many → yc = chosen → chosen < 2 ^ n → many ≤ n → lo ≤ n → ∀ (w : World) (z : Int), CvW wB ba z w →
    Calls Tryd.prog 148 #[.int .i64 n, .int .i64 yl, .int .i64 ym, .int .u32 yc, .func (.func 156) #[] #[.pointer (some ⟨wB.heap.size + 1, 0, none⟩), .pointer (some ⟨wB.heap.size, 0, none⟩)]] w fun e w' => ChV n S wB ba lo many chosen e w' := by
  intro many
  have HB := Lib.hid hB
  have h16 := hB.h16
  clear hB
  induction many with
  | zero =>
    rintro lo chosen yl ym yc rfl rfl rfl hc _ _ w z hW
    have HW := Lib.hid hW
    have HC := Lib.hid hc
    clear hW hc
    by_cases hst : CovN S chosen
    · have hd := Lib.hid (dec_true hst)
      have HST := Lib.hid hst
      clear hst
      go_enter Tryd.func148, Tryd.ntmps148
      go_wp2_with (go_at_call 156; refine (eachCov_any _ chosen rfl n S sp sc ba HC.out wB _ z HB.out HW.out).mono ?_; rintro e w3 ⟨rfl, hW3⟩; have HW3 := Lib.hid hW3; clear hW3)
      go_ret
      exact ⟨by rw [hd.out, dec_true (show ∃ s, ChYes (CovN S) n lo 0 chosen s from ⟨_, chYes_zero HST.out⟩)]; rfl, _, HW3.out, .inl ⟨chosen, rfl, chYes_zero HST.out⟩⟩
    · have hd := Lib.hid (dec_false hst)
      have HST := Lib.hid hst
      clear hst
      go_enter Tryd.func148, Tryd.ntmps148
      go_wp2_with (go_at_call 156; refine (eachCov_any _ chosen rfl n S sp sc ba HC.out wB _ z HB.out HW.out).mono ?_; rintro e w3 ⟨rfl, hW3⟩; have HW3 := Lib.hid hW3; clear hW3)
      go_ret
      exact ⟨by rw [hd.out, dec_false (ch_yes_no (chNo_zero HST.out))]; rfl, _, HW3.out, .inr (chNo_zero HST.out)⟩
  | succ many ih =>
    rintro lo chosen yl ym yc rfl hym rfl hc hmn hln w z hW
    obtain ⟨m, hm⟩ : ∃ m : Nat, m = many + 1 := ⟨_, rfl⟩
    obtain rfl : ym = (m : Int) := by omega
    have hm1 : m ≤ many + 1 := by omega
    have hm2 : many + 1 ≤ m := by omega
    have hm0 : ((m : Int) == 0) = false := by simp; omega
    clear hym hm
    have IH := Lib.hid ih
    have HW := Lib.hid hW
    have HC := Lib.hid hc
    clear hW hc ih
    go_enter Tryd.func148, Tryd.ntmps148
    go_wp2
    go_loopw [11] (fun i wr => ∃ (v : Nat) (z' : Int), lo ≤ v ∧ v ≤ n ∧ i = .int .i64 v ∧ ChTo (CovN S) n lo (many + 1) chosen v ∧ CvW wB ba z' wr) (fun i _ => n - (intOf i).toNat)
    case atStart => exact ⟨lo, z, Nat.le_refl _, hln, rfl, chTo_start _ _ _ _ _, HW.out⟩
    case round =>
      clear HW
      obtain ⟨v, z1, hlo, hvn, rfl, hto, hW⟩ := hrel
      have HTO := Lib.hid hto
      have HW := Lib.hid hW
      clear hto hW
      have hwr : wrap64 ((v : Int) + (m : Int)) = (v : Int) + (m : Int) := by unfold wrap64; omega
      have hwr1 : wrap64 ((v : Int) + 1) = (v : Int) + 1 := by unfold wrap64; omega
      by_cases hle : v + (many + 1) ≤ n
      · have hli : (v : Int) + (m : Int) ≤ (n : Int) := by omega
        have hc2 := or_one HC.out (show v < n by omega)
        have hor := Lib.hid (u32_or_nat chosen (2 ^ v) (by have := (cand_bits (by omega) HC.out).2; omega) (pow_lt32 v (by omega)))
        obtain ⟨t, ht⟩ : ∃ t, t = chosen ||| 2 ^ v := ⟨_, rfl⟩
        have HT := Lib.hid ht
        rw [← ht] at hc2
        have HC2 := Lib.hid hc2
        clear ht hc2
        by_cases hyes : ∃ s, ChYes (CovN S) n (v + 1) many t s
        · have hd := Lib.hid (dec_true hyes)
          have HY := Lib.hid hyes
          clear hyes
          go_wp2_with (first
            | (go_at_call 148; refine (IH.out (v + 1) t _ _ _ (by omega) (by omega) (by rw [HT.out]; exact hor.out) HC2.out (by omega) (by omega) _ z1 HW.out).mono ?_; rintro e w3 ⟨he3, z3, hW3, hr3⟩; rw [hd.out] at he3; subst he3; have HW3 := Lib.hid hW3; have HR3 := Lib.hid hr3; clear hW3 hr3)
            | (go_at_call 125; refine (one_any _ v rfl (by omega) _).mono ?_; rintro e w2 ⟨rfl, rfl⟩))
          go_ret
          rcases HR3.out with ⟨s, hz, hy⟩ | hno
          · have hY := chYes_step HTO.out hlo (by omega) (HT.out ▸ hy)
            exact ⟨by rw [dec_true (show ∃ s, ChYes (CovN S) n lo (many + 1) chosen s from ⟨s, hY⟩)]; rfl, z3, HW3.out, .inl ⟨s, hz, hY⟩⟩
          · exact absurd HY.out (ch_yes_no hno)
        · have hd := Lib.hid (dec_false hyes)
          have HY := Lib.hid hyes
          clear hyes
          go_wp2_with (first
            | (go_at_call 148; refine (IH.out (v + 1) t _ _ _ (by omega) (by omega) (by rw [HT.out]; exact hor.out) HC2.out (by omega) (by omega) _ z1 HW.out).mono ?_; rintro e w3 ⟨he3, z3, hW3, hr3⟩; rw [hd.out] at he3; subst he3; have HW3 := Lib.hid hW3; have HR3 := Lib.hid hr3; clear hW3 hr3)
            | (go_at_call 125; refine (one_any _ v rfl (by omega) _).mono ?_; rintro e w2 ⟨rfl, rfl⟩))
          go_roundw
          case rel =>
            rcases HR3.out with ⟨s, hz, hy⟩ | hno
            · exact absurd ⟨s, hy⟩ HY.out
            · exact ⟨v + 1, z3, by omega, by omega, by go_num, chTo_step HTO.out (HT.out ▸ hno), HW3.out⟩
          case measure => simp [intOf]; omega
      · have hli : ¬ (v : Int) + (m : Int) ≤ (n : Int) := by omega
        have hN := chNo_end HTO.out (show n < v + (many + 1) by omega)
        have HN := Lib.hid hN
        clear hN
        go_wp2
        go_ret
        exact ⟨by rw [dec_false (ch_yes_no HN.out)]; rfl, z1, HW.out, .inr HN.out⟩

end Go.Proofs.YtihlcmenfopaiaaDoor

/- Walks: smallestSet, for a cover; the program's CoverOf. -/
namespace Go.Proofs.YtihlcmenfopaiaaDoor
open Go.RowKit

set_option maxRecDepth 100000 in
set_option maxHeartbeats 2000000 in
theorem smallestSet_any (n : Nat) (S : List (List Int)) (sp : Option Addr) (sc ba : Nat) (w : World) (hB : CvBase w n S sp sc ba) :
    Calls Tryd.prog 108 #[.int .i64 n, .func (.func 109) #[] #[.pointer (some ⟨ba, 0, none⟩)]] w fun e w' => ∃ z : Int, e = .returned (.tuple #[.int .u32 z, .bool (dec (∃ t, t < 2 ^ n ∧ CovN S t))]) ∧
      ((∃ s : Nat, z = s ∧ LeastP (CovN S) n s) ∨ ∀ t, t < 2 ^ n → ¬ CovN S t) ∧ ((∀ t, t < 2 ^ n → ¬ CovN S t) → z = 0) ∧ Below w.heap.size w w' := by
  have HB := Lib.hid hB
  have h16 := hB.h16
  have HW0 : Hid (CvW w ba 0 ((w.alloc (.cells #[.func (.func 109) #[] #[.pointer (some ⟨ba, 0, none⟩)]] 130)).alloc (.cells #[.int .u32 0] 76))) := Lib.hid
    { bel := below_alloc2 w _ _
      fit := (Box.new w _ _).alloc _
      fnd := by
        have := Box.new (w.alloc (.cells #[.func (.func 109) #[] #[.pointer (some ⟨ba, 0, none⟩)]] 130)) (.int .u32 0) 76
        rwa [size_alloc] at this }
  clear hB
  go_enter Tryd.func108, Tryd.ntmps108
  go_wp2
  go_loopw [7] (fun i wr => ∃ (m : Nat) (z' : Int), m ≤ n + 1 ∧ i = .int .i64 m ∧ (∀ m', m' < m → ChNo (CovN S) n 0 m' 0) ∧ CvW w ba z' wr) (fun i _ => n + 1 - (intOf i).toNat)
  case atStart => exact ⟨0, 0, Nat.zero_le _, rfl, fun m' h => by omega, HW0.out⟩
  case round =>
    clear HW0
    obtain ⟨m, z1, hm, rfl, hno, hW⟩ := hrel
    have HNO := Lib.hid hno
    have HW := Lib.hid hW
    clear hno hW
    by_cases hle : m ≤ n
    · have hli : (m : Int) ≤ (n : Int) := by omega
      by_cases hyes : ∃ s, ChYes (CovN S) n 0 m 0 s
      · have hd := Lib.hid (dec_true hyes)
        have HY := Lib.hid hyes
        clear hyes
        go_wp2_with (go_at_call 148; refine (chooseSets_any n S sp sc ba w HB.out m 0 0 _ _ _ rfl rfl rfl (Nat.two_pow_pos _) hle (Nat.zero_le _) _ z1 HW.out).mono ?_; rintro e w3 ⟨he3, z3, hW3, hr3⟩; rw [hd.out] at he3; subst he3; have c3 := hW3.fnd.cell; have HW3 := Lib.hid hW3; have HR3 := Lib.hid hr3; clear hW3 hr3)
        go_ret2
        rcases HR3.out with ⟨s, hz, hy⟩ | hno
        · have hL := least_ch (by omega) HNO.out hy
          exact ⟨z3, by rw [dec_true (show ∃ t, t < 2 ^ n ∧ CovN S t from ⟨s, hL.1, hL.2.1⟩)]; rfl, .inl ⟨s, hz, hL⟩, fun h => absurd hL.2.1 (h s hL.1), HW3.out.bel⟩
        · exact absurd HY.out (ch_yes_no hno)
      · have hd := Lib.hid (dec_false hyes)
        have HY := Lib.hid hyes
        clear hyes
        go_wp2_with (go_at_call 148; refine (chooseSets_any n S sp sc ba w HB.out m 0 0 _ _ _ rfl rfl rfl (Nat.two_pow_pos _) hle (Nat.zero_le _) _ z1 HW.out).mono ?_; rintro e w3 ⟨he3, z3, hW3, hr3⟩; rw [hd.out] at he3; subst he3; have HW3 := Lib.hid hW3; have HR3 := Lib.hid hr3; clear hW3 hr3)
        go_roundw
        case rel =>
          rcases HR3.out with ⟨s, hz, hy⟩ | hno
          · exact absurd ⟨s, hy⟩ HY.out
          · refine ⟨m + 1, z3, by omega, by go_num, fun m' h => ?_, HW3.out⟩
            by_cases e : m' < m
            · exact HNO.out m' e
            · obtain rfl : m' = m := by omega
              exact hno
        case measure => simp [intOf]; omega
    · obtain rfl : m = n + 1 := by omega
      have hN := none_ch (by omega) HNO.out
      have HN := Lib.hid hN
      clear hN
      go_wp2
      go_ret2
      exact ⟨0, by rw [dec_false (show ¬ ∃ t, t < 2 ^ n ∧ CovN S t from fun ⟨t, h1, h2⟩ => HN.out t h1 h2)]; rfl, .inr HN.out, fun _ => rfl, HW.out.bel⟩

set_option maxRecDepth 100000 in
set_option maxHeartbeats 1000000 in
theorem coverOf_any (n : Nat) (S : List (List Int)) (sp : Option Addr) (sc : Nat) (h16 : n ≤ 16) (hr : ∀ j, j < S.length → ∀ x ∈ row S j, 0 ≤ x ∧ x < 16) (few : S.length ≤ 1000000) (w : World) (hs : Sl w 76 (.slice sp S.length sc) S.length ((S.map mask).map u32v)) :
    Calls Tryd.prog 58 #[.int .i64 n, .slice sp S.length sc] w fun e w' => ∃ z : Int, e = .returned (.int .u32 z) ∧ ((∃ s : Nat, z = s ∧ LeastP (CovN S) n s) ∨ ((∀ t, t < 2 ^ n → ¬ CovN S t) ∧ z = 0)) ∧ Below w.heap.size w w' := by
  have hbA := Lib.hid (below_alloc w (.cells #[.slice sp S.length sc] 78))
  have HB := Lib.hid (show CvBase (w.alloc (.cells #[.slice sp S.length sc] 78)) n S sp sc w.heap.size from ⟨h16, Box.new _ _ _, hs.below hbA.out, hr, few⟩)
  clear hs hr
  go_enter Tryd.func58, Tryd.ntmps58
  go_wp2_with (go_at_call 108; refine (smallestSet_any n S sp sc w.heap.size _ HB.out).mono ?_; rintro e w4 ⟨z, he4, hz4, hz0, hb4⟩; subst he4; have HZ := Lib.hid hz4; have HZ0 := Lib.hid hz0; clear hz4 hz0)
  go_ret
  refine ⟨z, rfl, ?_, hbA.out.trans (hb4.mono hbA.out.size)⟩
  rcases HZ.out with h | h
  · exact .inl h
  · exact .inr ⟨h, HZ0.out h⟩

set_option maxRecDepth 100000 in
set_option maxHeartbeats 2000000 in
theorem implCoverOf_any (v sv : Value) (g S : List (List Int)) (hgl : g.length ≤ 1000000000) (w : World) (hg : Gr w v g) (hs : Rws w 27 2 sv S) (hT : Tab w) :
    Calls Tryd.prog 16 #[v, sv] w fun e w' => ∃ (ov : Value) (ys : List Int), e = .returned ov ∧ CvS g S ys ∧ ys.length ≤ 32 ∧
      w'.ownsRow w.heap.size 2 1 ov ys.length (ys.map (Value.int .i64)) ∧ Below w.heap.size w w' := by
  have hg0 := hg
  obtain ⟨u, rfl, hr⟩ := hg
  obtain ⟨p, c, rfl, _, _, _⟩ := hr.shape
  obtain ⟨sp, sc, rfl, _⟩ := hs.shape
  have hbA := Lib.hid (below_alloc w (.cells #[.slice p g.length c] 29))
  have HG := Lib.hid (hg0.below hbA.out)
  have HS := Lib.hid (hs.below hbA.out)
  have BX := Lib.hid (Box.new w (.slice p g.length c) 29)
  have HT := Lib.hid (hT.keep hbA.out)
  have s0 := hbA.out.size
  clear hr hg0 hT hs
  by_cases hok : BrS g S
  case neg =>
    have hd := Lib.hid (dec_false hok)
    have HC := Lib.hid (show CvS g S [] from .inr ⟨hok, rfl⟩)
    clear hok
    go_enter Tryd.func16, Tryd.ntmps16
    go_wp2_with (go_at_call 57; refine (implBrambleOk_any _ _ g S hgl _ HG.out HS.out HT.out).mono ?_; rintro e w2 ⟨he, hb2⟩; rw [hd.out] at he; subst he)
    go_ret
    exact ⟨_, [], rfl, HC.out, by simp, ⟨rfl, .inl ⟨rfl, rfl⟩⟩, hbA.out.trans (hb2.mono s0)⟩
  have hd := Lib.hid (dec_true hok)
  have h16 := hok.1.1.le
  have few : S.length ≤ 1000000 := by have := hok.1.2; omega
  have HR : Hid (∀ j, j < S.length → ∀ x ∈ row S j, 0 ≤ x ∧ x < 16) := Lib.hid (fun j hj x hx => by have := (hok.2 j hj).1.1.2.1 x hx; omega)
  have Hok := Lib.hid hok
  clear hok
  go_enter Tryd.func16, Tryd.ntmps16
  go_upto_region 3 with (go_at_call 57; refine (implBrambleOk_any _ _ g S hgl _ HG.out HS.out HT.out).mono ?_; rintro e w2 ⟨he, hb2⟩; rw [hd.out] at he; subst he)
  have hbx := (BX.out.keep hb2).cell
  have HS2 := Lib.hid (HS.out.below hb2)
  have HT2 := Lib.hid (HT.out.keep hb2)
  have HB2 := Lib.hid (hbA.out.trans (hb2.mono s0))
  clear hb2
  go_cut [4] (fun s4 wx => ∃ ys, CvS g S ys ∧ ys.length ≤ 32 ∧ wx.ownsRow w2.heap.size 2 1 s4 ys.length (ys.map (Value.int .i64)) ∧ Below w2.heap.size w2 wx)
  case first =>
    go_region_held3 (fun w' => w'.cell? ⟨w.heap.size, 0, none⟩ = some (.slice p g.length c))
      (first | exact hbx | exact hb3'.at' hbx | exact hb4'.at' hbx | exact hb5'.at' hbx | go_keep)
      (first
        | (go_at_call 59; refine (bagMasks_any _ S HR.out few _ (HS2.out.below (below_dN (Below.refl _ _) 1))).mono ?_; rintro e w3 ⟨mv, rfl, hown3, hb3⟩; obtain ⟨mp, mc, rfl⟩ : ∃ p c, mv = Value.slice p S.length c := (by rcases hown3.2 with ⟨h1, h2⟩ | ⟨q, cap, cur, h1, _⟩; exact ⟨none, 0, (by rw [h1, h2])⟩; exact ⟨_, _, h1⟩); have HM3 := Lib.hid (Sl.of_owns hown3 (by omega)); have hb3' : Below w2.heap.size w2 w3 := (below_dN (Below.refl _ _) 1).trans hb3; clear hown3)
        | (go_at_call 58; refine (coverOf_any g.length S mp mc h16 HR.out few _ HM3.out).mono ?_; rintro e w4 ⟨z, rfl, hz, hb4⟩; obtain ⟨sN, hsN, hs32, hcv⟩ : ∃ sN : Nat, z = (sN : Int) ∧ sN < 65536 ∧ CvS g S (natInts (bitsOf sN)) := (by rcases hz with ⟨s, h1, h2⟩ | ⟨h1, h2⟩; exact ⟨s, h1, (cand_bits h16 h2.1).2, .inl ⟨Hok.out, .inl ⟨s, h2, rfl⟩⟩⟩; exact ⟨0, h2, (by omega), .inl ⟨Hok.out, .inr ⟨h1, (by rw [bitsOf_zero]; rfl)⟩⟩⟩); subst hsN; have HCV := Lib.hid hcv; have hb4' : Below w2.heap.size w2 w4 := hb3'.trans (hb4.mono hb3'.size); clear hz hcv)
        | (go_at_call 60; refine (numbers_any _ sN rfl (by omega) _ (HT2.out.keep hb4')).mono ?_; rintro e w5 ⟨lv, rfl, ho5, hb5⟩; have HO5 := Lib.hid (ownsRow_base ho5 hb4'.size); have hb5' : Below w2.heap.size w2 w5 := hb4'.trans (hb5.mono hb4'.size); clear ho5))
    all_goals go_wp2
    all_goals go_meet
    all_goals exact ⟨natInts (bitsOf sN), HCV.out, by rw [natInts_length]; exact bitsOf_length sN, by rw [natInts_length]; exact HO5.out, hb5'⟩
  case rest =>
  obtain ⟨ys, hcv, hl, hown, hb3⟩ := hcut
  have HCV := Lib.hid hcv
  have HO := Lib.hid hown
  have HL := Lib.hid hl
  clear hcv hown hl
  go_wp2_with fail
  go_ret
  exact ⟨_, ys, rfl, HCV.out, HL.out, ownsRow_base HO.out HB2.out.size, HB2.out.trans (hb3.mono HB2.out.size)⟩

end Go.Proofs.YtihlcmenfopaiaaDoor
