/- Walks: chooseSets, for stable sets and for covers (by sed of XCvJ, wip/mkSbJ.py). -/
import Derived.Test.YtkppbmfliejnmaaDoorSnQ39
namespace Go.Proofs.YtkppbmfliejnmaaDoor
open Go.RowKit

theorem chs_yes_no {P : Nat → Prop} {n lo many chosen : Nat} (h : ChNo P n lo many chosen) : ¬ ∃ s, ChYes P n lo many chosen s := by
  rintro ⟨s, T, h1, h2, h3, _⟩
  exact h T h1 (h2 ▸ h3)
theorem ors_one {c v n : Nat} (hc : c < 2 ^ n) (hv : v < n) : c ||| 2 ^ v < 2 ^ n := Nat.or_lt_two_pow hc (Nat.pow_lt_pow_right (by decide) hv)

/-- What chooseSets leaves. -/
def ChBs (n : Nat) (E : Nat → Nat → Bool) (wB : World) (ba lo many chosen : Nat) (e : Ending) (w' : World) : Prop :=
  e = .returned (.bool (dec (∃ s, ChYes (StbP E) n lo many chosen s))) ∧ ∃ z' : Int, BsW wB ba z' w' ∧ ((∃ s : Nat, z' = s ∧ ChYes (StbP E) n lo many chosen s) ∨ ChNo (StbP E) n lo many chosen)

set_option maxRecDepth 100000 in
set_option maxHeartbeats 4000000 in
theorem chooseBs_any (n : Nat) (E : Nat → Nat → Bool) (xp : Option Addr) (xc ba : Nat) (wB : World) (hB : SvBase wB n E xp xc ba) : ∀ (many lo chosen : Nat) (yl ym yc : Int), yl = lo → ym = many → yc = chosen → chosen < 2 ^ n → many ≤ n → lo ≤ n → ∀ (w : World) (z : Int), BsW wB ba z w →
    Calls Tryd.prog 178 #[.int .i64 n, .int .i64 yl, .int .i64 ym, .int .u32 yc, .func (.func 179) #[] #[.pointer (some ⟨wB.heap.size, 0, none⟩), .pointer (some ⟨ba, 0, none⟩)]] w fun e w' => ChBs n E wB ba lo many chosen e w' := by
  intro many
  have HB := Lib.hid hB
  have h16 := hB.h16
  clear hB
  induction many with
  | zero =>
    rintro lo chosen yl ym yc rfl rfl rfl hc _ _ w z hW
    have HW := Lib.hid hW
    have HC := Lib.hid hc
    clear hW hc
    by_cases hst : StbP E chosen
    · have hd := Lib.hid (dec_true hst)
      have HST := Lib.hid hst
      clear hst
      go_enter Tryd.func178, Tryd.ntmps178
      go_wp2_with (go_at_call 179; refine (eachBs_any _ chosen rfl n E xp xc ba HC.out wB _ z HB.out HW.out).mono ?_; rintro e w3 ⟨rfl, hW3⟩; have HW3 := Lib.hid hW3; clear hW3)
      go_ret
      exact ⟨by rw [hd.out, dec_true (show ∃ s, ChYes (StbP E) n lo 0 chosen s from ⟨_, chYes_zero HST.out⟩)]; rfl, _, HW3.out, .inl ⟨chosen, rfl, chYes_zero HST.out⟩⟩
    · have hd := Lib.hid (dec_false hst)
      have HST := Lib.hid hst
      clear hst
      go_enter Tryd.func178, Tryd.ntmps178
      go_wp2_with (go_at_call 179; refine (eachBs_any _ chosen rfl n E xp xc ba HC.out wB _ z HB.out HW.out).mono ?_; rintro e w3 ⟨rfl, hW3⟩; have HW3 := Lib.hid hW3; clear hW3)
      go_ret
      exact ⟨by rw [hd.out, dec_false (chs_yes_no (chNo_zero HST.out))]; rfl, _, HW3.out, .inr (chNo_zero HST.out)⟩
  | succ many ih =>
    rintro lo chosen yl ym yc rfl hym rfl hc hmn hln w z hW
    obtain ⟨m, hm⟩ : ∃ m : Nat, m = many + 1 := ⟨_, rfl⟩
    obtain rfl : ym = (m : Int) := by omega
    have hm1 : m ≤ many + 1 := by omega
    have hm2 : many + 1 ≤ m := by omega
    have hm0 : ((m : Int) == 0) = false := by simp; omega
    clear hym hm
    have IH := Lib.hid ih
    have HW := Lib.hid hW
    have HC := Lib.hid hc
    clear hW hc ih
    go_enter Tryd.func178, Tryd.ntmps178
    go_wp2
    go_loopw [11] (fun i wr => ∃ (v : Nat) (z' : Int), lo ≤ v ∧ v ≤ n ∧ i = .int .i64 v ∧ ChTo (StbP E) n lo (many + 1) chosen v ∧ BsW wB ba z' wr) (fun i _ => n - (intOf i).toNat)
    case atStart => exact ⟨lo, z, Nat.le_refl _, hln, rfl, chTo_start _ _ _ _ _, HW.out⟩
    case round =>
      clear HW
      obtain ⟨v, z1, hlo, hvn, rfl, hto, hW⟩ := hrel
      have HTO := Lib.hid hto
      have HW := Lib.hid hW
      clear hto hW
      have hwr : wrap64 ((v : Int) + (m : Int)) = (v : Int) + (m : Int) := by unfold wrap64; omega
      have hwr1 : wrap64 ((v : Int) + 1) = (v : Int) + 1 := by unfold wrap64; omega
      by_cases hle : v + (many + 1) ≤ n
      · have hli : (v : Int) + (m : Int) ≤ (n : Int) := by omega
        have hc2 := ors_one HC.out (show v < n by omega)
        have hor := Lib.hid (u32_or_nat chosen (2 ^ v) (by have := (cand_bits (by omega) HC.out).2; omega) (pow_lt32 v (by omega)))
        obtain ⟨t, ht⟩ : ∃ t, t = chosen ||| 2 ^ v := ⟨_, rfl⟩
        have HT := Lib.hid ht
        rw [← ht] at hc2
        have HC2 := Lib.hid hc2
        clear ht hc2
        by_cases hyes : ∃ s, ChYes (StbP E) n (v + 1) many t s
        · have hd := Lib.hid (dec_true hyes)
          have HY := Lib.hid hyes
          clear hyes
          go_wp2_with (first
            | (go_at_call 178; refine (IH.out (v + 1) t _ _ _ (by omega) (by omega) (by rw [HT.out]; exact hor.out) HC2.out (by omega) (by omega) _ z1 HW.out).mono ?_; rintro e w3 ⟨he3, z3, hW3, hr3⟩; rw [hd.out] at he3; subst he3; have HW3 := Lib.hid hW3; have HR3 := Lib.hid hr3; clear hW3 hr3)
            | (go_at_call 156; refine (one_any _ v rfl (by omega) _).mono ?_; rintro e w2 ⟨rfl, rfl⟩))
          go_ret
          rcases HR3.out with ⟨s, hz, hy⟩ | hno
          · have hY := chYes_step HTO.out hlo (by omega) (HT.out ▸ hy)
            exact ⟨by rw [dec_true (show ∃ s, ChYes (StbP E) n lo (many + 1) chosen s from ⟨s, hY⟩)]; rfl, z3, HW3.out, .inl ⟨s, hz, hY⟩⟩
          · exact absurd HY.out (chs_yes_no hno)
        · have hd := Lib.hid (dec_false hyes)
          have HY := Lib.hid hyes
          clear hyes
          go_wp2_with (first
            | (go_at_call 178; refine (IH.out (v + 1) t _ _ _ (by omega) (by omega) (by rw [HT.out]; exact hor.out) HC2.out (by omega) (by omega) _ z1 HW.out).mono ?_; rintro e w3 ⟨he3, z3, hW3, hr3⟩; rw [hd.out] at he3; subst he3; have HW3 := Lib.hid hW3; have HR3 := Lib.hid hr3; clear hW3 hr3)
            | (go_at_call 156; refine (one_any _ v rfl (by omega) _).mono ?_; rintro e w2 ⟨rfl, rfl⟩))
          go_roundw
          case rel =>
            rcases HR3.out with ⟨s, hz, hy⟩ | hno
            · exact absurd ⟨s, hy⟩ HY.out
            · exact ⟨v + 1, z3, by omega, by omega, by go_num, chTo_step HTO.out (HT.out ▸ hno), HW3.out⟩
          case measure => simp [intOf]; omega
      · have hli : ¬ (v : Int) + (m : Int) ≤ (n : Int) := by omega
        have hN := chNo_end HTO.out (show n < v + (many + 1) by omega)
        have HN := Lib.hid hN
        clear hN
        go_wp2
        go_ret
        exact ⟨by rw [dec_false (chs_yes_no HN.out)]; rfl, z1, HW.out, .inr HN.out⟩

/-- What chooseSets leaves. -/
def ChLc (n : Nat) (E : Nat → Nat → Bool) (wB : World) (ba lo many chosen : Nat) (e : Ending) (w' : World) : Prop :=
  e = .returned (.bool (dec (∃ s, ChYes (CvrP E n) n lo many chosen s))) ∧ ∃ z' : Int, LcW wB ba z' w' ∧ ((∃ s : Nat, z' = s ∧ ChYes (CvrP E n) n lo many chosen s) ∨ ChNo (CvrP E n) n lo many chosen)

set_option maxRecDepth 100000 in
set_option maxHeartbeats 4000000 in
theorem chooseLc_any (n : Nat) (E : Nat → Nat → Bool) (xp : Option Addr) (xc ba : Nat) (wB : World) (hB : SvBase wB n E xp xc ba) : ∀ (many lo chosen : Nat) (yl ym yc : Int), yl = lo → ym = many → yc = chosen → chosen < 2 ^ n → many ≤ n → lo ≤ n → ∀ (w : World) (z : Int), LcW wB ba z w →
    Calls Tryd.prog 178 #[.int .i64 n, .int .i64 yl, .int .i64 ym, .int .u32 yc, .func (.func 181) #[] #[.pointer (some ⟨wB.heap.size + 1, 0, none⟩), .pointer (some ⟨wB.heap.size, 0, none⟩)]] w fun e w' => ChLc n E wB ba lo many chosen e w' := by
  intro many
  have HB := Lib.hid hB
  have h16 := hB.h16
  clear hB
  induction many with
  | zero =>
    rintro lo chosen yl ym yc rfl rfl rfl hc _ _ w z hW
    have HW := Lib.hid hW
    have HC := Lib.hid hc
    clear hW hc
    by_cases hst : CvrP E n chosen
    · have hd := Lib.hid (dec_true hst)
      have HST := Lib.hid hst
      clear hst
      go_enter Tryd.func178, Tryd.ntmps178
      go_wp2_with (go_at_call 181; refine (eachLc_any _ chosen rfl n E xp xc ba HC.out wB _ z HB.out HW.out).mono ?_; rintro e w3 ⟨rfl, hW3⟩; have HW3 := Lib.hid hW3; clear hW3)
      go_ret
      exact ⟨by rw [hd.out, dec_true (show ∃ s, ChYes (CvrP E n) n lo 0 chosen s from ⟨_, chYes_zero HST.out⟩)]; rfl, _, HW3.out, .inl ⟨chosen, rfl, chYes_zero HST.out⟩⟩
    · have hd := Lib.hid (dec_false hst)
      have HST := Lib.hid hst
      clear hst
      go_enter Tryd.func178, Tryd.ntmps178
      go_wp2_with (go_at_call 181; refine (eachLc_any _ chosen rfl n E xp xc ba HC.out wB _ z HB.out HW.out).mono ?_; rintro e w3 ⟨rfl, hW3⟩; have HW3 := Lib.hid hW3; clear hW3)
      go_ret
      exact ⟨by rw [hd.out, dec_false (chs_yes_no (chNo_zero HST.out))]; rfl, _, HW3.out, .inr (chNo_zero HST.out)⟩
  | succ many ih =>
    rintro lo chosen yl ym yc rfl hym rfl hc hmn hln w z hW
    obtain ⟨m, hm⟩ : ∃ m : Nat, m = many + 1 := ⟨_, rfl⟩
    obtain rfl : ym = (m : Int) := by omega
    have hm1 : m ≤ many + 1 := by omega
    have hm2 : many + 1 ≤ m := by omega
    have hm0 : ((m : Int) == 0) = false := by simp; omega
    clear hym hm
    have IH := Lib.hid ih
    have HW := Lib.hid hW
    have HC := Lib.hid hc
    clear hW hc ih
    go_enter Tryd.func178, Tryd.ntmps178
    go_wp2
    go_loopw [11] (fun i wr => ∃ (v : Nat) (z' : Int), lo ≤ v ∧ v ≤ n ∧ i = .int .i64 v ∧ ChTo (CvrP E n) n lo (many + 1) chosen v ∧ LcW wB ba z' wr) (fun i _ => n - (intOf i).toNat)
    case atStart => exact ⟨lo, z, Nat.le_refl _, hln, rfl, chTo_start _ _ _ _ _, HW.out⟩
    case round =>
      clear HW
      obtain ⟨v, z1, hlo, hvn, rfl, hto, hW⟩ := hrel
      have HTO := Lib.hid hto
      have HW := Lib.hid hW
      clear hto hW
      have hwr : wrap64 ((v : Int) + (m : Int)) = (v : Int) + (m : Int) := by unfold wrap64; omega
      have hwr1 : wrap64 ((v : Int) + 1) = (v : Int) + 1 := by unfold wrap64; omega
      by_cases hle : v + (many + 1) ≤ n
      · have hli : (v : Int) + (m : Int) ≤ (n : Int) := by omega
        have hc2 := ors_one HC.out (show v < n by omega)
        have hor := Lib.hid (u32_or_nat chosen (2 ^ v) (by have := (cand_bits (by omega) HC.out).2; omega) (pow_lt32 v (by omega)))
        obtain ⟨t, ht⟩ : ∃ t, t = chosen ||| 2 ^ v := ⟨_, rfl⟩
        have HT := Lib.hid ht
        rw [← ht] at hc2
        have HC2 := Lib.hid hc2
        clear ht hc2
        by_cases hyes : ∃ s, ChYes (CvrP E n) n (v + 1) many t s
        · have hd := Lib.hid (dec_true hyes)
          have HY := Lib.hid hyes
          clear hyes
          go_wp2_with (first
            | (go_at_call 178; refine (IH.out (v + 1) t _ _ _ (by omega) (by omega) (by rw [HT.out]; exact hor.out) HC2.out (by omega) (by omega) _ z1 HW.out).mono ?_; rintro e w3 ⟨he3, z3, hW3, hr3⟩; rw [hd.out] at he3; subst he3; have HW3 := Lib.hid hW3; have HR3 := Lib.hid hr3; clear hW3 hr3)
            | (go_at_call 156; refine (one_any _ v rfl (by omega) _).mono ?_; rintro e w2 ⟨rfl, rfl⟩))
          go_ret
          rcases HR3.out with ⟨s, hz, hy⟩ | hno
          · have hY := chYes_step HTO.out hlo (by omega) (HT.out ▸ hy)
            exact ⟨by rw [dec_true (show ∃ s, ChYes (CvrP E n) n lo (many + 1) chosen s from ⟨s, hY⟩)]; rfl, z3, HW3.out, .inl ⟨s, hz, hY⟩⟩
          · exact absurd HY.out (chs_yes_no hno)
        · have hd := Lib.hid (dec_false hyes)
          have HY := Lib.hid hyes
          clear hyes
          go_wp2_with (first
            | (go_at_call 178; refine (IH.out (v + 1) t _ _ _ (by omega) (by omega) (by rw [HT.out]; exact hor.out) HC2.out (by omega) (by omega) _ z1 HW.out).mono ?_; rintro e w3 ⟨he3, z3, hW3, hr3⟩; rw [hd.out] at he3; subst he3; have HW3 := Lib.hid hW3; have HR3 := Lib.hid hr3; clear hW3 hr3)
            | (go_at_call 156; refine (one_any _ v rfl (by omega) _).mono ?_; rintro e w2 ⟨rfl, rfl⟩))
          go_roundw
          case rel =>
            rcases HR3.out with ⟨s, hz, hy⟩ | hno
            · exact absurd ⟨s, hy⟩ HY.out
            · exact ⟨v + 1, z3, by omega, by omega, by go_num, chTo_step HTO.out (HT.out ▸ hno), HW3.out⟩
          case measure => simp [intOf]; omega
      · have hli : ¬ (v : Int) + (m : Int) ≤ (n : Int) := by omega
        have hN := chNo_end HTO.out (show n < v + (many + 1) by omega)
        have HN := Lib.hid hN
        clear hN
        go_wp2
        go_ret
        exact ⟨by rw [dec_false (chs_yes_no HN.out)]; rfl, z1, HW.out, .inr HN.out⟩


end Go.Proofs.YtkppbmfliejnmaaDoor

/- Walks: smallestSet for LeastCover; bestStable (its first part by sed of XCvK, wip/mkSbJ.py). -/
namespace Go.Proofs.YtkppbmfliejnmaaDoor
open Go.RowKit

set_option maxRecDepth 100000 in
set_option maxHeartbeats 2000000 in
theorem smallestLc_any (n : Nat) (E : Nat → Nat → Bool) (xp : Option Addr) (xc ba : Nat) (w : World) (hB : SvBase w n E xp xc ba) :
    Calls Tryd.prog 91 #[.int .i64 n, .func (.func 92) #[] #[.pointer (some ⟨ba, 0, none⟩)]] w fun e w' => ∃ z : Int, e = .returned (.tuple #[.int .u32 z, .bool (dec (∃ t, t < 2 ^ n ∧ CvrP E n t))]) ∧
      ((∃ s : Nat, z = s ∧ LeastP (CvrP E n) n s) ∨ ∀ t, t < 2 ^ n → ¬ CvrP E n t) ∧ ((∀ t, t < 2 ^ n → ¬ CvrP E n t) → z = 0) ∧ Below w.heap.size w w' := by
  have HB := Lib.hid hB
  have h16 := hB.h16
  have HW0 : Hid (LcW w ba 0 ((w.alloc (.cells #[.func (.func 92) #[] #[.pointer (some ⟨ba, 0, none⟩)]] 79)).alloc (.cells #[.int .u32 0] 70))) := Lib.hid
    { bel := below_alloc2 w _ _
      fit := (Box.new w _ _).alloc _
      fnd := by
        have := Box.new (w.alloc (.cells #[.func (.func 92) #[] #[.pointer (some ⟨ba, 0, none⟩)]] 79)) (.int .u32 0) 70
        rwa [size_alloc] at this }
  clear hB
  go_enter Tryd.func91, Tryd.ntmps91
  go_wp2
  go_loopw [7] (fun i wr => ∃ (m : Nat) (z' : Int), m ≤ n + 1 ∧ i = .int .i64 m ∧ (∀ m', m' < m → ChNo (CvrP E n) n 0 m' 0) ∧ LcW w ba z' wr) (fun i _ => n + 1 - (intOf i).toNat)
  case atStart => exact ⟨0, 0, Nat.zero_le _, rfl, fun m' h => by omega, HW0.out⟩
  case round =>
    clear HW0
    obtain ⟨m, z1, hm, rfl, hno, hW⟩ := hrel
    have HNO := Lib.hid hno
    have HW := Lib.hid hW
    clear hno hW
    by_cases hle : m ≤ n
    · have hli : (m : Int) ≤ (n : Int) := by omega
      by_cases hyes : ∃ s, ChYes (CvrP E n) n 0 m 0 s
      · have hd := Lib.hid (dec_true hyes)
        have HY := Lib.hid hyes
        clear hyes
        go_wp2_with (go_at_call 178; refine (chooseLc_any n E xp xc ba w HB.out m 0 0 _ _ _ rfl rfl rfl (Nat.two_pow_pos _) hle (Nat.zero_le _) _ z1 HW.out).mono ?_; rintro e w3 ⟨he3, z3, hW3, hr3⟩; rw [hd.out] at he3; subst he3; have c3 := hW3.fnd.cell; have HW3 := Lib.hid hW3; have HR3 := Lib.hid hr3; clear hW3 hr3)
        go_ret2
        rcases HR3.out with ⟨s, hz, hy⟩ | hno
        · have hL := least_ch (by omega) HNO.out hy
          exact ⟨z3, by rw [dec_true (show ∃ t, t < 2 ^ n ∧ CvrP E n t from ⟨s, hL.1, hL.2.1⟩)]; rfl, .inl ⟨s, hz, hL⟩, fun h => absurd hL.2.1 (h s hL.1), HW3.out.bel⟩
        · exact absurd HY.out (chs_yes_no hno)
      · have hd := Lib.hid (dec_false hyes)
        have HY := Lib.hid hyes
        clear hyes
        go_wp2_with (go_at_call 178; refine (chooseLc_any n E xp xc ba w HB.out m 0 0 _ _ _ rfl rfl rfl (Nat.two_pow_pos _) hle (Nat.zero_le _) _ z1 HW.out).mono ?_; rintro e w3 ⟨he3, z3, hW3, hr3⟩; rw [hd.out] at he3; subst he3; have HW3 := Lib.hid hW3; have HR3 := Lib.hid hr3; clear hW3 hr3)
        go_roundw
        case rel =>
          rcases HR3.out with ⟨s, hz, hy⟩ | hno
          · exact absurd ⟨s, hy⟩ HY.out
          · refine ⟨m + 1, z3, by omega, by go_num, fun m' h => ?_, HW3.out⟩
            by_cases e : m' < m
            · exact HNO.out m' e
            · obtain rfl : m' = m := by omega
              exact hno
        case measure => simp [intOf]; omega
    · obtain rfl : m = n + 1 := by omega
      have hN := none_ch (by omega) HNO.out
      have HN := Lib.hid hN
      clear hN
      go_wp2
      go_ret2
      exact ⟨0, by rw [dec_false (show ¬ ∃ t, t < 2 ^ n ∧ CvrP E n t from fun ⟨t, h1, h2⟩ => HN.out t h1 h2)]; rfl, .inr HN.out, fun _ => rfl, HW.out.bel⟩

theorem max_none {P : Nat → Prop} {n : Nat} (hn : n ≤ 16) (h0 : P 0) (hno : ∀ m, 0 < m → m ≤ n → ChNo P n 0 m 0) : MaxP P n 0 := by
  refine ⟨Nat.two_pow_pos _, h0, fun t ht hP => ?_⟩
  obtain ⟨hc, h16⟩ := cand_bits hn ht
  have hl := bits_lenN hn ht
  have e0 : (bitsOf t).length = 0 := by
    by_cases h : (bitsOf t).length = 0
    · exact h
    · exact absurd (by rw [Nat.zero_or, mask_bitsOf h16]; exact hP) (hno _ (Nat.pos_of_ne_zero h) hl _ hc)
  have e1 : bitsOf t = [] := List.eq_nil_of_length_eq_zero e0
  rw [e1]
  exact ⟨Nat.zero_le _, fun _ => by rw [bitsOf_zero]; exact lexL_irrefl _⟩
set_option maxRecDepth 100000 in
set_option maxHeartbeats 2000000 in
theorem bestStable_any (n : Nat) (E : Nat → Nat → Bool) (xp : Option Addr) (xc : Nat) (h16 : n ≤ 16) (w : World) (hx : NE w (.slice xp n xc) n E) (hT : Tab w) :
    Calls Tryd.prog 88 #[.slice xp n xc] w fun e w' => ∃ s : Nat, e = .returned (.int .u32 (s : Int)) ∧ MaxP (StbP E) n s ∧ Below w.heap.size w w' := by
  obtain ⟨wB, hwB⟩ : ∃ wB, wB = w.alloc (.cells #[.slice xp n xc] 73) := ⟨_, rfl⟩
  have hb0 : Below w.heap.size w wB := by rw [hwB]; exact below_alloc _ _
  have hBase : SvBase wB n E xp xc w.heap.size := ⟨h16, by rw [hwB]; exact Box.new _ _ _, hx.next hb0, hT.keep hb0⟩
  have HB := Lib.hid hBase
  have HB0 := Lib.hid hb0
  have HW0 : Hid (BsW wB w.heap.size 0 (wB.alloc (.cells #[.int .u32 0] 70))) := Lib.hid ⟨below_alloc _ _, Box.new _ _ _⟩
  obtain ⟨ba, hba⟩ : ∃ ba, ba = w.heap.size := ⟨_, rfl⟩
  rw [← hba] at HB HW0
  clear hx hT hb0 hBase
  go_enter Tryd.func88, Tryd.ntmps88
  go_upto_region 1 with fail
  rw [← hwB, ← hba]
  have hbsz : ba < wB.heap.size := HB.out.box.lt
  have hbl : w.heap.size ≤ wB.heap.size := HB0.out.size
  clear hwB hba
  go_upto_region 2 with fail
  have cA := (HB.out.next HW0.out.bel).box.cell
  generalize hWs : wB.alloc (.cells #[.int .u32 0] 70) = ws at HW0 cA ⊢
  clear hWs
  go_wp2_with fail
  go_loopw [4] (fun i wr => ∃ (m : Nat) (z' : Int), m ≤ n ∧ i = .int .i64 m ∧ (∀ m', m < m' → m' ≤ n → ChNo (StbP E) n 0 m' 0) ∧ BsW wB ba z' wr) (fun i _ => (intOf i).toNat)
  case atStart => exact ⟨n, 0, Nat.le_refl _, rfl, fun m' h h2 => by omega, HW0.out⟩
  case round =>
    clear HW0 cA
    obtain ⟨m, z1, hm, rfl, hno, hW⟩ := hrel
    have HNO := Lib.hid hno
    have HW := Lib.hid hW
    have cA := (HB.out.next hW.bel).box.cell
    clear hno hW
    by_cases hle : 0 < m
    · have hli : (0 : Int) < (m : Int) := by omega
      by_cases hyes : ∃ s, ChYes (StbP E) n 0 m 0 s
      · have hd := Lib.hid (dec_true hyes)
        have HY := Lib.hid hyes
        clear hyes
        go_wp2_with (go_at_call 178; refine (chooseBs_any n E xp xc ba wB HB.out m 0 0 _ _ _ rfl rfl rfl (Nat.two_pow_pos _) hm (Nat.zero_le _) _ z1 HW.out).mono ?_; rintro e w3 ⟨he3, z3, hW3, hr3⟩; rw [hd.out] at he3; subst he3; have c3 := hW3.fnd.cell; have HW3 := Lib.hid hW3; have HR3 := Lib.hid hr3; clear hW3 hr3)
        go_ret
        rcases HR3.out with ⟨s, hz, hy⟩ | hno
        · exact ⟨s, by rw [hz]; rfl, max_ch h16 HNO.out hy, HB0.out.trans (HW3.out.bel.mono hbl)⟩
        · exact absurd HY.out (chs_yes_no hno)
      · have hd := Lib.hid (dec_false hyes)
        have HY := Lib.hid hyes
        clear hyes
        go_wp2_with (go_at_call 178; refine (chooseBs_any n E xp xc ba wB HB.out m 0 0 _ _ _ rfl rfl rfl (Nat.two_pow_pos _) hm (Nat.zero_le _) _ z1 HW.out).mono ?_; rintro e w3 ⟨he3, z3, hW3, hr3⟩; rw [hd.out] at he3; subst he3; have HW3 := Lib.hid hW3; have HR3 := Lib.hid hr3; clear hW3 hr3)
        go_roundw
        case rel =>
          rcases HR3.out with ⟨s, hz, hy⟩ | hno
          · exact absurd ⟨s, hy⟩ HY.out
          · refine ⟨m - 1, z3, by omega, by go_num, fun m' h h2 => ?_, HW3.out⟩
            by_cases e : m < m'
            · exact HNO.out m' e h2
            · obtain rfl : m' = m := by omega
              exact hno
        case measure => simp [intOf]; omega
    · obtain rfl : m = 0 := by omega
      go_wp2
      go_ret
      exact ⟨0, rfl, max_none h16 (sv_zero E) HNO.out, HB0.out.trans (HW.out.bel.mono hbl)⟩

end Go.Proofs.YtkppbmfliejnmaaDoor
