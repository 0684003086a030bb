/- Walks: the sets of so many, tried in their order (the program's chooseSets and its closures). -/
import Derived.Test.YtdkmnmnncccgaaaDoorMdQ37
import Derived.Test.YtdkmnmnncccgaaaDoorMdQ39
namespace Go.Proofs.YtdkmnmnncccgaaaDoor
open Go.RowKit

theorem lOk_of_lt {g : List (List Int)} (h : GOk g) {s : Nat} (hs : s < 2 ^ g.length) : LOk g s where
  ok := h
  s16 := (cand_bits h.le hs).2
  inn := fun i hi => ((cand_bits h.le hs).1.inn i ((mem_bitsOf' (by have := (cand_bits h.le hs).2; omega)).2 hi)).2
theorem bits_len16 {g : List (List Int)} (h : GOk g) {s : Nat} (hs : s < 2 ^ g.length) : (bitsOf s).length ≤ 16 := by
  have hc := (cand_bits h.le hs).1
  have := h.le
  by_cases he : bitsOf s = []
  · rw [he]; simp
  · have := rising_room hc.ris hc.inn he
    omega

theorem bits_nil0 {l : Nat} (h : l < 65536) (e : ¬ natInts (bitsOf l) ≠ []) : l = 0 := by
  have e1 : natInts (bitsOf l) = [] := Decidable.byContradiction e
  have e2 : bitsOf l = [] := by simpa [natInts] using e1
  rw [← mask_bitsOf h, e2]
  rfl

/-- What stands below the call. -/
structure ObBase (w : World) (g : List (List Int)) (xp : Option Addr) (xc ba : Nat) : Prop where
  ok : GOk g
  h8 : g.length ≤ 8
  box : Box w ba 47 (.slice xp g.length xc)
  sl : Sl w 50 (.slice xp g.length xc) g.length ((netL g).map u32v)
  tab : Tab w
theorem ObBase.next {w w' : World} {g : List (List Int)} {xp : Option Addr} {xc ba : Nat} (h : ObBase w g xp xc ba) (hb : Below w.heap.size w w') : ObBase w' g xp xc ba :=
  ⟨h.ok, h.h8, h.box.keep hb, h.sl.below hb, h.tab.keep hb⟩

set_option maxRecDepth 100000 in
set_option maxHeartbeats 1000000 in
theorem fits_any (y : Int) (s : Nat) (hy : y = s) (g : List (List Int)) (xp : Option Addr) (xc ba : Nat) (hs : s < 2 ^ g.length) (w : World) (h : ObBase w g xp xc ba) :
    Calls Tryd.prog 32 #[.int .u32 y, .pointer (some ⟨ba, 0, none⟩)] w fun e w' => e = .returned (.bool (dec (StuckN g s))) ∧ Below w.heap.size w w' := by
  subst hy
  have hbx := h.box.cell
  have H := Lib.hid h
  have HS := Lib.hid hs
  clear h hs
  by_cases hst : StuckN g s
  · have HST := Lib.hid hst
    have hd := Lib.hid (dec_true hst)
    clear hst
    go_enter Tryd.func32, Tryd.ntmps32
    go_wp2_with (go_at_call 33; refine (prunedOf_any _ _ g s rfl _ ⟨lOk_of_lt H.out.ok HS.out, H.out.sl⟩ (bits_len16 H.out.ok HS.out) H.out.tab).mono ?_; rintro e w5 ⟨ov, fs, l, rfl, hF, ho5, hl16, hcnt5, hT5, hb5⟩; have hl0 : l ≠ 0 := (fun e0 => (stuck_iff hF).1 HST.out (by rw [e0, bitsOf_zero]; rfl)); clear hF ho5 hT5)
    go_ret
    exact ⟨by rw [hd.out]; exact ret_bool (by simpa using hl0), hb5⟩
  · have HST := Lib.hid hst
    have hd := Lib.hid (dec_false hst)
    clear hst
    go_enter Tryd.func32, Tryd.ntmps32
    go_wp2_with (go_at_call 33; refine (prunedOf_any _ _ g s rfl _ ⟨lOk_of_lt H.out.ok HS.out, H.out.sl⟩ (bits_len16 H.out.ok HS.out) H.out.tab).mono ?_; rintro e w5 ⟨ov, fs, l, rfl, hF, ho5, hl16, hcnt5, hT5, hb5⟩; have hl0 : l = 0 := bits_nil0 hl16 (fun e0 => HST.out ((stuck_iff hF).2 e0)); clear hF ho5 hT5)
    go_ret
    exact ⟨by rw [hd.out]; exact ret_bool (by simp [hl0]), hb5⟩

/-- The call's own variables: the function and what was found. -/
structure ObW (wB : World) (ba : Nat) (z : Int) (w : World) : Prop where
  bel : Below wB.heap.size wB w
  fit : Box w wB.heap.size 55 (.func (.func 32) #[] #[.pointer (some ⟨ba, 0, none⟩)])
  fnd : Box w (wB.heap.size + 1) 50 (.int .u32 z)
theorem ObW.next {wB w w' : World} {ba : Nat} {z : Int} (h : ObW wB ba z w) (hb : Below w.heap.size w w') : ObW wB ba z w' :=
  ⟨h.bel.trans (hb.mono h.bel.size), h.fit.keep hb, h.fnd.keep hb⟩
theorem ObW.set {wB w : World} {ba : Nat} {z : Int} (h : ObW wB ba z w) (y : Int) : ObW wB ba y (w.setCell ⟨wB.heap.size + 1, 0, none⟩ (.int .u32 y)) :=
  ⟨h.bel.setCell (by show wB.heap.size ≤ wB.heap.size + 1; omega) _, h.fit.setOther (by show wB.heap.size ≠ wB.heap.size + 1; omega) _, h.fnd.set _⟩

set_option maxRecDepth 100000 in
set_option maxHeartbeats 1000000 in
theorem each_any (y : Int) (s : Nat) (hy : y = s) (g : List (List Int)) (xp : Option Addr) (xc ba : Nat) (hs : s < 2 ^ g.length) (wB w : World) (z : Int) (hB : ObBase wB g xp xc ba) (hW : ObW wB ba z w) :
    Calls Tryd.prog 53 #[.int .u32 y, .pointer (some ⟨wB.heap.size + 1, 0, none⟩), .pointer (some ⟨wB.heap.size, 0, none⟩)] w fun e w' => e = .returned (.bool (dec (StuckN g s))) ∧ ObW wB ba s w' := by
  subst hy
  have c1 := hW.fnd.cell
  have f1 := hW.fnd.free
  have HB := Lib.hid hB
  have HW2 := Lib.hid (hW.set (s : Int))
  have c2 := HW2.out.fit.cell
  have HS := Lib.hid hs
  clear hB hW hs
  go_enter Tryd.func53, Tryd.ntmps53
  go_wp2_with (go_at_call 32; refine (fits_any _ s rfl g xp xc ba HS.out _ (HB.out.next HW2.out.bel)).mono ?_; rintro e w3 ⟨rfl, hb3⟩)
  go_ret
  exact ⟨rfl, HW2.out.next hb3⟩

end Go.Proofs.YtdkmnmnncccgaaaDoor

/- Walks: chooseSets. -/
namespace Go.Proofs.YtdkmnmnncccgaaaDoor
open Go.RowKit

theorem ch_yes_no {P : Nat → Prop} {n lo many chosen : Nat} (h : ChNo P n lo many chosen) : ¬ ∃ s, ChYes P n lo many chosen s := by
  rintro ⟨s, T, h1, h2, h3, _⟩
  exact h T h1 (h2 ▸ h3)
theorem or_one {c v n : Nat} (hc : c < 2 ^ n) (hv : v < n) : c ||| 2 ^ v < 2 ^ n := Nat.or_lt_two_pow hc (Nat.pow_lt_pow_right (by decide) hv)

/-- What chooseSets leaves. -/
def ChR (g : List (List Int)) (wB : World) (ba lo many chosen : Nat) (e : Ending) (w' : World) : Prop :=
  e = .returned (.bool (dec (∃ s, ChYes (StuckN g) g.length lo many chosen s))) ∧ ∃ z' : Int, ObW wB ba z' w' ∧ ((∃ s : Nat, z' = s ∧ ChYes (StuckN g) g.length lo many chosen s) ∨ ChNo (StuckN g) g.length lo many chosen)

set_option maxRecDepth 100000 in
set_option maxHeartbeats 4000000 in
theorem chooseSets_any (g : List (List Int)) (xp : Option Addr) (xc ba : Nat) (wB : World) (hB : ObBase wB g xp xc ba) : ∀ (many lo chosen : Nat) (yl ym yc : Int), yl = lo → ym = many → yc = chosen → chosen < 2 ^ g.length → many ≤ g.length → lo ≤ g.length → ∀ (w : World) (z : Int), ObW wB ba z w →
    Calls Tryd.prog 52 #[.int .i64 g.length, .int .i64 yl, .int .i64 ym, .int .u32 yc, .func (.func 53) #[] #[.pointer (some ⟨wB.heap.size + 1, 0, none⟩), .pointer (some ⟨wB.heap.size, 0, none⟩)]] w fun e w' => ChR g wB ba lo many chosen e w' := by
  intro many
  have HB := Lib.hid hB
  have h8 := hB.h8
  clear hB
  induction many with
  | zero =>
    rintro lo chosen yl ym yc rfl rfl rfl hc _ _ w z hW
    have HW := Lib.hid hW
    have HC := Lib.hid hc
    clear hW hc
    by_cases hst : StuckN g chosen
    · have hd := Lib.hid (dec_true hst)
      have HST := Lib.hid hst
      clear hst
      go_enter Tryd.func52, Tryd.ntmps52
      go_wp2_with (go_at_call 53; refine (each_any _ chosen rfl g xp xc ba HC.out wB _ z HB.out HW.out).mono ?_; rintro e w3 ⟨rfl, hW3⟩; have HW3 := Lib.hid hW3; clear hW3)
      go_ret
      exact ⟨by rw [hd.out, dec_true (show ∃ s, ChYes (StuckN g) g.length lo 0 chosen s from ⟨_, chYes_zero HST.out⟩)]; rfl, _, HW3.out, .inl ⟨chosen, rfl, chYes_zero HST.out⟩⟩
    · have hd := Lib.hid (dec_false hst)
      have HST := Lib.hid hst
      clear hst
      go_enter Tryd.func52, Tryd.ntmps52
      go_wp2_with (go_at_call 53; refine (each_any _ chosen rfl g xp xc ba HC.out wB _ z HB.out HW.out).mono ?_; rintro e w3 ⟨rfl, hW3⟩; have HW3 := Lib.hid hW3; clear hW3)
      go_ret
      exact ⟨by rw [hd.out, dec_false (ch_yes_no (chNo_zero HST.out))]; rfl, _, HW3.out, .inr (chNo_zero HST.out)⟩
  | succ many ih =>
    rintro lo chosen yl ym yc rfl hym rfl hc hmn hln w z hW
    obtain ⟨m, hm⟩ : ∃ m : Nat, m = many + 1 := ⟨_, rfl⟩
    obtain rfl : ym = (m : Int) := by omega
    have hm1 : m ≤ many + 1 := by omega
    have hm2 : many + 1 ≤ m := by omega
    have hm0 : ((m : Int) == 0) = false := by simp; omega
    clear hym hm
    have IH := Lib.hid ih
    have HW := Lib.hid hW
    have HC := Lib.hid hc
    clear hW hc ih
    go_enter Tryd.func52, Tryd.ntmps52
    go_wp2
    go_loopw [11] (fun i wr => ∃ (v : Nat) (z' : Int), lo ≤ v ∧ v ≤ g.length ∧ i = .int .i64 v ∧ ChTo (StuckN g) g.length lo (many + 1) chosen v ∧ ObW wB ba z' wr) (fun i _ => g.length - (intOf i).toNat)
    case atStart => exact ⟨lo, z, Nat.le_refl _, hln, rfl, chTo_start _ _ _ _ _, HW.out⟩
    case round =>
      clear HW
      obtain ⟨v, z1, hlo, hvn, rfl, hto, hW⟩ := hrel
      have HTO := Lib.hid hto
      have HW := Lib.hid hW
      clear hto hW
      have hwr : wrap64 ((v : Int) + (m : Int)) = (v : Int) + (m : Int) := by unfold wrap64; omega
      have hwr1 : wrap64 ((v : Int) + 1) = (v : Int) + 1 := by unfold wrap64; omega
      by_cases hle : v + (many + 1) ≤ g.length
      · have hli : (v : Int) + (m : Int) ≤ (g.length : Int) := by omega
        have hc2 := or_one HC.out (show v < g.length by omega)
        have hor := Lib.hid (u32_or_nat chosen (2 ^ v) (by have := (cand_bits (by omega) HC.out).2; omega) (pow_lt32 v (by omega)))
        obtain ⟨t, ht⟩ : ∃ t, t = chosen ||| 2 ^ v := ⟨_, rfl⟩
        have HT := Lib.hid ht
        rw [← ht] at hc2
        have HC2 := Lib.hid hc2
        clear ht hc2
        by_cases hyes : ∃ s, ChYes (StuckN g) g.length (v + 1) many t s
        · have hd := Lib.hid (dec_true hyes)
          have HY := Lib.hid hyes
          clear hyes
          go_wp2_with (first
            | (go_at_call 52; refine (IH.out (v + 1) t _ _ _ (by omega) (by omega) (by rw [HT.out]; exact hor.out) HC2.out (by omega) (by omega) _ z1 HW.out).mono ?_; rintro e w3 ⟨he3, z3, hW3, hr3⟩; rw [hd.out] at he3; subst he3; have HW3 := Lib.hid hW3; have HR3 := Lib.hid hr3; clear hW3 hr3)
            | (go_at_call 56; refine (one_any _ v rfl (by omega) _).mono ?_; rintro e w2 ⟨rfl, rfl⟩))
          go_ret
          rcases HR3.out with ⟨s, hz, hy⟩ | hno
          · have hY := chYes_step HTO.out hlo (by omega) (HT.out ▸ hy)
            exact ⟨by rw [dec_true (show ∃ s, ChYes (StuckN g) g.length lo (many + 1) chosen s from ⟨s, hY⟩)]; rfl, z3, HW3.out, .inl ⟨s, hz, hY⟩⟩
          · exact absurd HY.out (ch_yes_no hno)
        · have hd := Lib.hid (dec_false hyes)
          have HY := Lib.hid hyes
          clear hyes
          go_wp2_with (first
            | (go_at_call 52; refine (IH.out (v + 1) t _ _ _ (by omega) (by omega) (by rw [HT.out]; exact hor.out) HC2.out (by omega) (by omega) _ z1 HW.out).mono ?_; rintro e w3 ⟨he3, z3, hW3, hr3⟩; rw [hd.out] at he3; subst he3; have HW3 := Lib.hid hW3; have HR3 := Lib.hid hr3; clear hW3 hr3)
            | (go_at_call 56; refine (one_any _ v rfl (by omega) _).mono ?_; rintro e w2 ⟨rfl, rfl⟩))
          go_roundw
          case rel =>
            rcases HR3.out with ⟨s, hz, hy⟩ | hno
            · exact absurd ⟨s, hy⟩ HY.out
            · exact ⟨v + 1, z3, by omega, by omega, by go_num, chTo_step HTO.out (HT.out ▸ hno), HW3.out⟩
          case measure => simp [intOf]; omega
      · have hli : ¬ (v : Int) + (m : Int) ≤ (g.length : Int) := by omega
        have hN := chNo_end HTO.out (show g.length < v + (many + 1) by omega)
        have HN := Lib.hid hN
        clear hN
        go_wp2
        go_ret
        exact ⟨by rw [dec_false (ch_yes_no HN.out)]; rfl, z1, HW.out, .inr HN.out⟩

end Go.Proofs.YtdkmnmnncccgaaaDoor
