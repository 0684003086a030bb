/- Walks: whether a graph is prime (the program's isPrime: chooseSets over its closure). -/
import Derived.Test.YtmakhapdlkbbnaaDoorMlQ26
import Derived.Deep.RegionHeld3
import Derived.Deep.DeepCutAuto
namespace Go.Proofs.YtmakhapdlkbbnaaDoor
open Go.RowKit

theorem chp_yes_no {P : Nat → Prop} {n lo many chosen : Nat} (h : ChNo P n lo many chosen) : ¬ ∃ s, ChYes P n lo many chosen s := by
  rintro ⟨s, T, h1, h2, h3, _⟩
  exact h T h1 (h2 ▸ h3)
theorem orp_one {c v n : Nat} (hc : c < 2 ^ n) (hv : v < n) : c ||| 2 ^ v < 2 ^ n := Nat.or_lt_two_pow hc (Nat.pow_lt_pow_right (by decide) hv)


/-- What stands below the call. -/
structure PrBase (w : World) (g : List (List Int)) (xp : Option Addr) (xc ba : Nat) : Prop where
  ok : GOk g
  h16b : g.length ≤ 16
  box : Box w ba 76 (.slice xp g.length xc)
  sl : Sl w 79 (.slice xp g.length xc) g.length ((netL g).map u32v)
  tab : Tab w
theorem PrBase.next {w w' : World} {g : List (List Int)} {xp : Option Addr} {xc ba : Nat} (h : PrBase w g xp xc ba) (hb : Below w.heap.size w w') : PrBase w' g xp xc ba :=
  ⟨h.ok, h.h16b, h.box.keep hb, h.sl.below hb, h.tab.keep hb⟩
def PrW (wB : World) (_ba : Nat) (_z : Int) (w : World) : Prop := Below wB.heap.size wB w

set_option maxRecDepth 100000 in
set_option maxHeartbeats 2000000 in
theorem prime1_any (y : Int) (s : Nat) (hy : y = s) (g : List (List Int)) (xp : Option Addr) (xc ba : Nat) (hs : s < 2 ^ g.length) (w : World) (h : PrBase w g xp xc ba) :
    Calls Tryd.prog 181 #[.int .u32 y, .pointer (some ⟨ba, 0, none⟩)] w fun e w' => e = .returned (.bool (dec (PrmP g s))) ∧ Below w.heap.size w w' := by
  subst hy
  have hbx := h.box.cell
  have H := Lib.hid h
  have HS := Lib.hid hs
  have h16 := h.h16b
  obtain ⟨W, hW⟩ : ∃ W, W = 2 ^ g.length - 1 := ⟨_, rfl⟩
  have HW := Lib.hid hW
  clear h hs hW
  go_enter Tryd.func181, Tryd.ntmps181
  go_upto_region 1 with fail
  go_cut [3] (fun v wx => v = .bool (dec (PrmP g s)) ∧ Below w.heap.size w wx)
  case first =>
    go_region_held3 (fun w' => w'.cell? ⟨ba, 0, none⟩ = some (.slice xp g.length xc))
      (first | go_keep | exact hbx | exact BWA.at' hbx)
      (first
        | (go_at_call 101; refine (closureOf_any g xp xc _ _ W s rfl rfl HW.out HS.out H.out.ok _ (H.out.sl.below (below_dN (Below.refl _ _) 1)) (H.out.tab.keep (below_dN (Below.refl _ _) 1))).mono ?_; rintro e w5 ⟨c, rfl, hcl, hb5⟩; (have hne : ((c : Int) != (W : Int)) = dec (PrmP g s) := (by
            have h1 := cls_prm hcl
            rw [← HW.out] at h1
            by_cases e : c = W
            · rw [dec_false (fun k => h1.2 k e), e]; simp
            · rw [dec_true (h1.1 e)]
              simp
              omega)); have BWA : Below w.heap.size w w5 := (below_dN (Below.refl _ _) 1).trans hb5; clear hb5 hcl)
        | (go_at_call 98; refine (all_any _ _ _ (by omega) _).mono ?_; rintro e wA ⟨he, hwA⟩; rw [← HW.out] at he; subst he; subst hwA))
    all_goals go_wp2
    all_goals go_meet
    all_goals exact ⟨by first | rfl | rw [hne], BWA⟩
  case rest =>
    obtain ⟨rfl, hbz⟩ := hcut
    go_wp2
    go_ret
    exact ⟨rfl, hbz⟩
theorem primeEach_any (y : Int) (s : Nat) (hy : y = s) (g : List (List Int)) (xp : Option Addr) (xc ba : Nat) (hs : s < 2 ^ g.length) (wB w : World) (z : Int) (hB : PrBase wB g xp xc ba) (hW : PrW wB ba z w) :
    Calls Tryd.prog 181 #[.int .u32 y, .pointer (some ⟨ba, 0, none⟩)] w fun e w' => e = .returned (.bool (dec (PrmP g s))) ∧ PrW wB ba s w' :=
  (prime1_any y s hy g xp xc ba hs w (hB.next hW)).mono fun _ _ ⟨h1, h2⟩ => ⟨h1, Below.trans hW (h2.mono (Below.size hW))⟩

/-- What chooseSets leaves. -/
def ChRp (g : List (List Int)) (wB : World) (ba lo many chosen : Nat) (e : Ending) (w' : World) : Prop :=
  e = .returned (.bool (dec (∃ s, ChYes (PrmP g) g.length lo many chosen s))) ∧ ∃ z' : Int, PrW wB ba z' w' ∧ ((∃ s : Nat, z' = s ∧ ChYes (PrmP g) g.length lo many chosen s) ∨ ChNo (PrmP g) g.length lo many chosen)

set_option maxRecDepth 100000 in
set_option maxHeartbeats 4000000 in
theorem choosePr_any (g : List (List Int)) (xp : Option Addr) (xc ba : Nat) (wB : World) (hB : PrBase wB g xp xc ba) : ∀ (many lo chosen : Nat) (yl ym yc : Int), yl = lo → ym = many → yc = chosen → chosen < 2 ^ g.length → many ≤ g.length → lo ≤ g.length → ∀ (w : World) (z : Int), PrW wB ba z w →
    Calls Tryd.prog 180 #[.int .i64 g.length, .int .i64 yl, .int .i64 ym, .int .u32 yc, .func (.func 181) #[] #[.pointer (some ⟨ba, 0, none⟩)]] w fun e w' => ChRp g wB ba lo many chosen e w' := by
  intro many
  have HB := Lib.hid hB
  have h16b := hB.h16b
  clear hB
  induction many with
  | zero =>
    rintro lo chosen yl ym yc rfl rfl rfl hc _ _ w z hW
    have HW := Lib.hid hW
    have HC := Lib.hid hc
    clear hW hc
    by_cases hst : PrmP g chosen
    · have hd := Lib.hid (dec_true hst)
      have HST := Lib.hid hst
      clear hst
      go_enter Tryd.func180, Tryd.ntmps180
      go_wp2_with (go_at_call 181; refine (primeEach_any _ chosen rfl g xp xc ba HC.out wB _ z HB.out HW.out).mono ?_; rintro e w3 ⟨rfl, hW3⟩; have HW3 := Lib.hid hW3; clear hW3)
      go_ret
      exact ⟨by rw [hd.out, dec_true (show ∃ s, ChYes (PrmP g) g.length lo 0 chosen s from ⟨_, chYes_zero HST.out⟩)]; rfl, _, HW3.out, .inl ⟨chosen, rfl, chYes_zero HST.out⟩⟩
    · have hd := Lib.hid (dec_false hst)
      have HST := Lib.hid hst
      clear hst
      go_enter Tryd.func180, Tryd.ntmps180
      go_wp2_with (go_at_call 181; refine (primeEach_any _ chosen rfl g xp xc ba HC.out wB _ z HB.out HW.out).mono ?_; rintro e w3 ⟨rfl, hW3⟩; have HW3 := Lib.hid hW3; clear hW3)
      go_ret
      exact ⟨by rw [hd.out, dec_false (chp_yes_no (chNo_zero HST.out))]; rfl, _, HW3.out, .inr (chNo_zero HST.out)⟩
  | succ many ih =>
    rintro lo chosen yl ym yc rfl hym rfl hc hmn hln w z hW
    obtain ⟨m, hm⟩ : ∃ m : Nat, m = many + 1 := ⟨_, rfl⟩
    obtain rfl : ym = (m : Int) := by omega
    have hm1 : m ≤ many + 1 := by omega
    have hm2 : many + 1 ≤ m := by omega
    have hm0 : ((m : Int) == 0) = false := by simp; omega
    clear hym hm
    have IH := Lib.hid ih
    have HW := Lib.hid hW
    have HC := Lib.hid hc
    clear hW hc ih
    go_enter Tryd.func180, Tryd.ntmps180
    go_wp2
    go_loopw [11] (fun i wr => ∃ (v : Nat) (z' : Int), lo ≤ v ∧ v ≤ g.length ∧ i = .int .i64 v ∧ ChTo (PrmP g) g.length lo (many + 1) chosen v ∧ PrW wB ba z' wr) (fun i _ => g.length - (intOf i).toNat)
    case atStart => exact ⟨lo, z, Nat.le_refl _, hln, rfl, chTo_start _ _ _ _ _, HW.out⟩
    case round =>
      clear HW
      obtain ⟨v, z1, hlo, hvn, rfl, hto, hW⟩ := hrel
      have HTO := Lib.hid hto
      have HW := Lib.hid hW
      clear hto hW
      have hwr : wrap64 ((v : Int) + (m : Int)) = (v : Int) + (m : Int) := by unfold wrap64; omega
      have hwr1 : wrap64 ((v : Int) + 1) = (v : Int) + 1 := by unfold wrap64; omega
      by_cases hle : v + (many + 1) ≤ g.length
      · have hli : (v : Int) + (m : Int) ≤ (g.length : Int) := by omega
        have hc2 := orp_one HC.out (show v < g.length by omega)
        have hor := Lib.hid (u32_or_nat chosen (2 ^ v) (by have := (cand_bits (by omega) HC.out).2; omega) (pow_lt32 v (by omega)))
        obtain ⟨t, ht⟩ : ∃ t, t = chosen ||| 2 ^ v := ⟨_, rfl⟩
        have HT := Lib.hid ht
        rw [← ht] at hc2
        have HC2 := Lib.hid hc2
        clear ht hc2
        by_cases hyes : ∃ s, ChYes (PrmP g) g.length (v + 1) many t s
        · have hd := Lib.hid (dec_true hyes)
          have HY := Lib.hid hyes
          clear hyes
          go_wp2_with (first
            | (go_at_call 180; refine (IH.out (v + 1) t _ _ _ (by omega) (by omega) (by rw [HT.out]; exact hor.out) HC2.out (by omega) (by omega) _ z1 HW.out).mono ?_; rintro e w3 ⟨he3, z3, hW3, hr3⟩; rw [hd.out] at he3; subst he3; have HW3 := Lib.hid hW3; have HR3 := Lib.hid hr3; clear hW3 hr3)
            | (go_at_call 135; refine (one_any _ v rfl (by omega) _).mono ?_; rintro e w2 ⟨rfl, rfl⟩))
          go_ret
          rcases HR3.out with ⟨s, hz, hy⟩ | hno
          · have hY := chYes_step HTO.out hlo (by omega) (HT.out ▸ hy)
            exact ⟨by rw [dec_true (show ∃ s, ChYes (PrmP g) g.length lo (many + 1) chosen s from ⟨s, hY⟩)]; rfl, z3, HW3.out, .inl ⟨s, hz, hY⟩⟩
          · exact absurd HY.out (chp_yes_no hno)
        · have hd := Lib.hid (dec_false hyes)
          have HY := Lib.hid hyes
          clear hyes
          go_wp2_with (first
            | (go_at_call 180; refine (IH.out (v + 1) t _ _ _ (by omega) (by omega) (by rw [HT.out]; exact hor.out) HC2.out (by omega) (by omega) _ z1 HW.out).mono ?_; rintro e w3 ⟨he3, z3, hW3, hr3⟩; rw [hd.out] at he3; subst he3; have HW3 := Lib.hid hW3; have HR3 := Lib.hid hr3; clear hW3 hr3)
            | (go_at_call 135; refine (one_any _ v rfl (by omega) _).mono ?_; rintro e w2 ⟨rfl, rfl⟩))
          go_roundw
          case rel =>
            rcases HR3.out with ⟨s, hz, hy⟩ | hno
            · exact absurd ⟨s, hy⟩ HY.out
            · exact ⟨v + 1, z3, by omega, by omega, by go_num, chTo_step HTO.out (HT.out ▸ hno), HW3.out⟩
          case measure => simp [intOf]; omega
      · have hli : ¬ (v : Int) + (m : Int) ≤ (g.length : Int) := by omega
        have hN := chNo_end HTO.out (show g.length < v + (many + 1) by omega)
        have HN := Lib.hid hN
        clear hN
        go_wp2
        go_ret
        exact ⟨by rw [dec_false (chp_yes_no HN.out)]; rfl, z1, HW.out, .inr HN.out⟩


theorem chNo_prm {g : List (List Int)} : ChNo (PrmP g) g.length 0 2 0 ↔ ∀ i k, i < k → k < g.length → ¬ PrmP g (2 ^ i ||| 2 ^ k) := by
  constructor
  · intro h i k hik hk
    have := h [i, k] ⟨by simp [hik], fun x hx => by
      simp only [List.mem_cons, List.not_mem_nil, or_false] at hx
      rcases hx with rfl | rfl <;> omega, rfl⟩
    rw [mask_cons, mask_cons, mask_nil0, Nat.or_zero, Nat.zero_or] at this
    exact this
  · intro h T hT
    obtain ⟨i, k, rfl⟩ : ∃ i k, T = [i, k] := by
      have hl := hT.len
      match T, hl with
      | [i, k], _ => exact ⟨i, k, rfl⟩
    have hr := hT.ris
    simp only [List.pairwise_cons, List.mem_cons, List.not_mem_nil, or_false, forall_eq] at hr
    rw [mask_cons, mask_cons, mask_nil0, Nat.or_zero, Nat.zero_or]
    exact h i k hr.1 (hT.inn k (by simp)).2

set_option maxRecDepth 100000 in
set_option maxHeartbeats 2000000 in
theorem isPrime_any (g : List (List Int)) (xp : Option Addr) (xc : Nat) (hok : GOk g) (w : World) (hx : Sl w 79 (.slice xp g.length xc) g.length ((netL g).map u32v)) (hT : Tab w) :
    Calls Tryd.prog 111 #[.slice xp g.length xc] w fun e w' => e = .returned (.bool (dec (4 ≤ g.length ∧ ChNo (PrmP g) g.length 0 2 0))) ∧ Below w.heap.size w w' := by
  have h16 := hok.le
  by_cases h4 : 4 ≤ g.length
  · have hb := Lib.hid (below_alloc w (.cells #[.slice xp g.length xc] 76))
    have HB : Hid (PrBase (w.alloc (.cells #[.slice xp g.length xc] 76)) g xp xc w.heap.size) := Lib.hid ⟨hok, h16, Box.new _ _ _, hx.below hb.out, hT.keep hb.out⟩
    have h4i : ¬ (g.length : Int) < 4 := by omega
    have H4 := Lib.hid h4
    clear hx hT hok
    have hd1 : Hid (0 < 2 ^ g.length) := Lib.hid (Nat.two_pow_pos _)
    by_cases hyes : ∃ s, ChYes (PrmP g) g.length 0 2 0 s
    · have hd := Lib.hid (dec_true hyes)
      have HN : Hid (dec (4 ≤ g.length ∧ ChNo (PrmP g) g.length 0 2 0) = false) := Lib.hid (dec_false fun h => chp_yes_no h.2 hyes)
      clear hyes
      go_enter Tryd.func111, Tryd.ntmps111
      go_wp2_with (go_at_call 180; refine (choosePr_any g xp xc w.heap.size _ HB.out 2 0 0 _ _ _ rfl rfl rfl hd1.out (by omega) (by omega) _ 0 (Below.refl _ _)).mono ?_; rintro e w3 ⟨he3, z3, hW3, hr3⟩; rw [hd.out] at he3; subst he3; have HW3 := Lib.hid hW3; clear hW3 hr3)
      go_ret
      exact ⟨by rw [HN.out]; rfl, hb.out.trans (Below.mono HW3.out hb.out.size)⟩
    · have hd := Lib.hid (dec_false hyes)
      have HY := Lib.hid hyes
      clear hyes
      go_enter Tryd.func111, Tryd.ntmps111
      go_wp2_with (go_at_call 180; refine (choosePr_any g xp xc w.heap.size _ HB.out 2 0 0 _ _ _ rfl rfl rfl hd1.out (by omega) (by omega) _ 0 (Below.refl _ _)).mono ?_; rintro e w3 ⟨he3, z3, hW3, hr3⟩; rw [hd.out] at he3; subst he3; have HW3 := Lib.hid hW3; have HR3 := Lib.hid hr3; clear hW3 hr3)
      go_ret
      have hno : ChNo (PrmP g) g.length 0 2 0 := by
        rcases HR3.out with ⟨s, _, hy⟩ | h
        · exact absurd ⟨s, hy⟩ HY.out
        · exact h
      exact ⟨by rw [dec_true (show 4 ≤ g.length ∧ ChNo (PrmP g) g.length 0 2 0 from ⟨H4.out, hno⟩)]; rfl, hb.out.trans (Below.mono HW3.out hb.out.size)⟩
  · have h4i : (g.length : Int) < 4 := by omega
    have HN : Hid (dec (4 ≤ g.length ∧ ChNo (PrmP g) g.length 0 2 0) = false) := Lib.hid (dec_false fun h => h4 h.1)
    clear hx hT hok h4
    go_enter Tryd.func111, Tryd.ntmps111
    go_wp2
    go_ret
    exact ⟨by rw [HN.out]; rfl, below_alloc _ _⟩

set_option maxRecDepth 100000 in
set_option maxHeartbeats 2000000 in
theorem implPrimeIn_yes (v : Value) (g : List (List Int)) (hok : GOk g) (w : World) (hg : Gr w v g) (hT : Tab w) :
    Calls Tryd.prog 34 #[v] w fun e w' => e = .returned (.bool (dec (4 ≤ g.length ∧ ChNo (PrmP g) g.length 0 2 0))) ∧ Below w.heap.size w w' := by
  have hg0 := hg
  obtain ⟨u, rfl, hr⟩ := hg
  obtain ⟨p, c, rfl, _⟩ := hr.shape
  have hbA := Lib.hid (below_alloc w (.cells #[.slice p g.length c] 29))
  have HG := Lib.hid (hg0.below hbA.out)
  have BX := Lib.hid (Box.new w (.slice p g.length c) 29)
  have HT := Lib.hid (hT.keep hbA.out)
  have hd := dec_true hok
  have HOK := Lib.hid hok
  have h16 := hok.le
  clear hr hg0 hT hok
  go_enter Tryd.func34, Tryd.ntmps34
  go_wp2_with (first
    | (go_at_call 80; refine (implGraphOk_any _ g _ HG.out).mono ?_; rintro e w2 ⟨he, hb2⟩; rw [hd] at he; subst he; have hbx := (BX.out.keep hb2).cell)
    | (go_at_call 82; refine (netsOf_any _ g _ (HG.out.below hb2) HOK.out).mono ?_; rintro e w3 ⟨x, rfl, hown3, hb3⟩; have HX3 := Lib.hid (Sl.of_owns hown3 (by omega)); obtain ⟨xp, xc, rfl⟩ := owns_shapeA hown3; have HT3 := Lib.hid ((HT.out.keep hb2).keep hb3); clear hown3)
    | (go_at_call 111; refine (isPrime_any g xp xc HOK.out _ HX3.out HT3.out).mono ?_; rintro e w4 ⟨rfl, hb4⟩))
  go_ret
  exact ⟨rfl, ((hbA.out.trans (hb2.mono hbA.out.size)).trans (hb3.mono (Nat.le_trans hbA.out.size hb2.size))).trans (hb4.mono (Nat.le_trans (Nat.le_trans hbA.out.size hb2.size) hb3.size))⟩

end Go.Proofs.YtmakhapdlkbbnaaDoor
