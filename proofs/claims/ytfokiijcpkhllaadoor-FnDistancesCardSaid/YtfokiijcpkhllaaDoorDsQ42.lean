/- Walks: DistHereditary of both. -/
import Derived.Test.YtfokiijcpkhllaaDoorDsQ29
import Derived.Test.YtfokiijcpkhllaaDoorDsQ39
import Derived.Test.YtfokiijcpkhllaaDoorDsQ41
import Derived.Test.YtfokiijcpkhllaaDoorDsQ10
import Derived.Test.YtfokiijcpkhllaaDoorDsQ22
namespace Go.Proofs.YtfokiijcpkhllaaDoor
open Go.RowKit

set_option maxRecDepth 100000 in
set_option maxHeartbeats 4000000 in
theorem specDistHer_any (v : Value) (g : List (List Int)) (w : World) (hok : GOk g) (h6 : g.length ≤ 6) (hg : Gr w v g) :
    Calls Tryd.prog 15 #[v] w fun e w' => e = .returned (.bool (dec (KG g))) ∧ Below w.heap.size w w' := by
  have hg0 := Lib.hid hg
  obtain ⟨_, rfl, hr⟩ := hg
  obtain ⟨ga, gc, rfl, _⟩ := hr.shape
  obtain ⟨w1, hw1⟩ : ∃ w1, w1 = w.alloc (.cells #[.slice ga g.length gc] 29) := ⟨_, rfl⟩
  have HX : Hid (Box w1 w.heap.size 29 (.slice ga g.length gc)) := Lib.hid (by rw [hw1]; exact Box.new _ _ _)
  have HB1 : Hid (Below w.heap.size w w1) := Lib.hid (by rw [hw1]; exact below_alloc _ _)
  have HG1 := Lib.hid (hg0.out.below HB1.out)
  have HD := Lib.hid (dec_true hok)
  have HOK := Lib.hid hok
  obtain ⟨KB, hKB⟩ : ∃ KB, KB = dec (KG g) := ⟨_, rfl⟩
  have HKB := Lib.hid hKB
  rw [← hKB]
  have hle := hok.le
  clear hok hr hg0 hKB
  go_enter Tryd.func15, Tryd.ntmps15
  go_upto_region 1 with fail
  rw [← hw1]
  clear hw1
  have c1 := HX.out.cell
  go_upto_region 3 with (go_at_call 50; refine (specGraphOk_any _ g _ HG1.out).mono ?_; rintro e w2 ⟨he, hb2⟩; rw [HD.out] at he; subst he; have c2 := hb2.at' c1; have HB2 := Lib.hid (HB1.out.trans (hb2.mono HB1.out.size)); have HG2 := Lib.hid (HG1.out.below hb2); clear hb2)
  go_cut [4] (fun s4 wx => ∃ (p : Option Addr) (c : Nat) (fs : List Pr) (l : List Int), s4 = .slice p l.length c ∧ Prunes g (allL g.length) fs l ∧ Below w2.heap.size w2 wx)
  case first =>
    go_region_held3 (fun Z => Z.cell? ⟨w.heap.size, 0, none⟩ = some (.slice ga g.length gc))
      (first | exact c2 | go_keep | exact BWB.at' c2 | exact BWA.at' c2)
      (first
        | (go_at_call 58; refine (l18Prune_any _ _ g (allL g.length) HOK.out (by rw [allL_length]; exact hle) (fun x hx => mem_allL.1 hx) (allL_rising _) _ (HG2.out.below BWA) HNA.out).mono ?_; rintro e w5 ⟨ov, lv, fs, l, rfl, hp, _, hn, _, _, hb5⟩; have HP := Lib.hid hp; obtain ⟨lp, lc, rfl, _⟩ := id hn.shape; have BWB : Below w2.heap.size w2 w5 := BWA.trans (hb5.mono BWA.size); clear hp hn)
        | (go_at_call 55; refine (l16All_any _ g (by omega) _ (HG2.out.below (below_dN (Below.refl _ _) 1))).mono ?_; rintro e w4 ⟨av, rfl, ho, hb4⟩; have hna := Nums.of_owns (xs := allL g.length) ho (allL_length _).symm (by omega); have HNA := Lib.hid hna; have BWA : Below w2.heap.size w2 w4 := (below_dN (Below.refl _ _) 1).trans hb4; clear ho hna))
    all_goals go_wp2
    all_goals go_meet
    all_goals exact ⟨lp, lc, fs, l, rfl, HP.out, BWB⟩
  case rest =>
  obtain ⟨p, c, fs, l, rfl, hp, hb⟩ := hcut
  have HIF := Lib.hid (kg_prunes HOK.out h6 hp)
  have HBE := Lib.hid (HB2.out.trans (hb.mono HB2.out.size))
  clear hp hb c1 c2
  by_cases hl : l = []
  · have HK : Hid (KB = true) := Lib.hid (by rw [HKB.out]; exact dec_true (HIF.out.1 hl))
    subst hl
    go_wp2_with fail
    go_ret
    exact ⟨by rw [HK.out]; rfl, HBE.out⟩
  · have HK : Hid (KB = false) := Lib.hid (by rw [HKB.out]; exact dec_false fun h => hl (HIF.out.2 h))
    obtain ⟨m, hm⟩ : ∃ m, m = l.length := ⟨_, rfl⟩
    have hm0 : ¬ (m : Int) = 0 := by have := List.length_pos_iff.2 hl; omega
    have hm1 : ((m : Int) == 0) = false := beq_eq_false_iff_ne.2 hm0
    rw [← hm]
    clear hm hl
    go_wp2_with fail
    go_ret
    exact ⟨by rw [HK.out]; first | rfl | simp [hm0] | (simp; omega), HBE.out⟩
set_option maxRecDepth 100000 in
set_option maxHeartbeats 4000000 in
theorem implDistHer_any (v : Value) (g : List (List Int)) (w : World) (hok : GOk g) (h6 : g.length ≤ 6) (hg : Gr w v g) (hT : Tab w) :
    Calls Tryd.prog 10 #[v] w fun e w' => e = .returned (.bool (dec (KG g))) ∧ Below w.heap.size w w' := by
  have hg0 := Lib.hid hg
  obtain ⟨_, rfl, hr⟩ := hg
  obtain ⟨ga, gc, rfl, _⟩ := hr.shape
  obtain ⟨w1, hw1⟩ : ∃ w1, w1 = w.alloc (.cells #[.slice ga g.length gc] 29) := ⟨_, rfl⟩
  have HX : Hid (Box w1 w.heap.size 29 (.slice ga g.length gc)) := Lib.hid (by rw [hw1]; exact Box.new _ _ _)
  have HB1 : Hid (Below w.heap.size w w1) := Lib.hid (by rw [hw1]; exact below_alloc _ _)
  have HG1 := Lib.hid (hg0.out.below HB1.out)
  have HT1 := Lib.hid (hT.keep HB1.out)
  have HD := Lib.hid (dec_true hok)
  have HOK := Lib.hid hok
  obtain ⟨KB, hKB⟩ : ∃ KB, KB = dec (KG g) := ⟨_, rfl⟩
  have HKB := Lib.hid hKB
  rw [← hKB]
  clear hok hr hg0 hKB hT
  go_enter Tryd.func10, Tryd.ntmps10
  go_upto_region 1 with fail
  rw [← hw1]
  clear hw1
  have c1 := HX.out.cell
  go_upto_region 4 with (first
    | (go_at_call 38; refine (implGraphOk_any _ g _ HG1.out).mono ?_; rintro e w2 ⟨he, hb2⟩; rw [HD.out] at he; subst he; have c2 := hb2.at' c1; have HB2 := Lib.hid (HB1.out.trans (hb2.mono HB1.out.size)); have HG2 := Lib.hid (HG1.out.below hb2); have HT2 := Lib.hid (HT1.out.keep hb2); clear hb2)
    | (go_at_call 39; refine (implPrunedOf_any _ g _ HG2.out HT2.out).mono ?_; rintro e w3 ⟨ov, lv, fs, l, rfl, hp, _, hn, _, _, hb3⟩; have HP := Lib.hid hp; obtain ⟨lp, lc, rfl⟩ : ∃ p c, lv = .slice p l.length c := (by rcases hn.2 with ⟨rfl, h0⟩ | ⟨b, c, _, rfl, _⟩; exact ⟨none, 0, by rw [h0]⟩; exact ⟨_, _, rfl⟩); have HBE := Lib.hid (HB2.out.trans (hb3.mono HB2.out.size)); clear hp hn hb3))
  have HIF : Hid (l = [] ↔ KG g) := Lib.hid (by
    rcases HP.out with ⟨_, h⟩ | ⟨h, _⟩
    · exact kg_prunes HOK.out h6 h
    · exact absurd HOK.out h)
  clear c1 c2
  by_cases hl : l = []
  · have HK : Hid (KB = true) := Lib.hid (by rw [HKB.out]; exact dec_true (HIF.out.1 hl))
    subst hl
    go_wp2_with fail
    go_ret
    exact ⟨by rw [HK.out]; rfl, HBE.out⟩
  · have HK : Hid (KB = false) := Lib.hid (by rw [HKB.out]; exact dec_false fun h => hl (HIF.out.2 h))
    obtain ⟨m, hm⟩ : ∃ m, m = l.length := ⟨_, rfl⟩
    have hm0 : ¬ (m : Int) = 0 := by have := List.length_pos_iff.2 hl; omega
    have hm1 : ((m : Int) == 0) = false := beq_eq_false_iff_ne.2 hm0
    rw [← hm]
    clear hm hl
    go_wp2_with fail
    go_ret
    exact ⟨by rw [HK.out]; first | rfl | simp [hm0] | (simp; omega), HBE.out⟩

end Go.Proofs.YtfokiijcpkhllaaDoor

/- Walks: the sets of so many, tried in their order (the program's chooseSets and its closures). -/
namespace Go.Proofs.YtfokiijcpkhllaaDoor
open Go.RowKit

theorem lOk_of_lt {g : List (List Int)} (h : GOk g) {s : Nat} (hs : s < 2 ^ g.length) : LOk g s where
  ok := h
  s16 := (cand_bits h.le hs).2
  inn := fun i hi => ((cand_bits h.le hs).1.inn i ((mem_bitsOf' (by have := (cand_bits h.le hs).2; omega)).2 hi)).2
theorem bits_len16 {g : List (List Int)} (h : GOk g) {s : Nat} (hs : s < 2 ^ g.length) : (bitsOf s).length ≤ 16 := by
  have hc := (cand_bits h.le hs).1
  have := h.le
  by_cases he : bitsOf s = []
  · rw [he]; simp
  · have := rising_room hc.ris hc.inn he
    omega

theorem bits_nil0 {l : Nat} (h : l < 65536) (e : ¬ natInts (bitsOf l) ≠ []) : l = 0 := by
  have e1 : natInts (bitsOf l) = [] := Decidable.byContradiction e
  have e2 : bitsOf l = [] := by simpa [natInts] using e1
  rw [← mask_bitsOf h, e2]
  rfl

/-- What stands below the call. -/
structure ObBase (w : World) (g : List (List Int)) (xp : Option Addr) (xc ba : Nat) : Prop where
  ok : GOk g
  h8 : g.length ≤ 8
  box : Box w ba 61 (.slice xp g.length xc)
  sl : Sl w 64 (.slice xp g.length xc) g.length ((netL g).map u32v)
  tab : Tab w
theorem ObBase.next {w w' : World} {g : List (List Int)} {xp : Option Addr} {xc ba : Nat} (h : ObBase w g xp xc ba) (hb : Below w.heap.size w w') : ObBase w' g xp xc ba :=
  ⟨h.ok, h.h8, h.box.keep hb, h.sl.below hb, h.tab.keep hb⟩

set_option maxRecDepth 100000 in
set_option maxHeartbeats 1000000 in
theorem fits_any (y : Int) (s : Nat) (hy : y = s) (g : List (List Int)) (xp : Option Addr) (xc ba : Nat) (hs : s < 2 ^ g.length) (w : World) (h : ObBase w g xp xc ba) :
    Calls Tryd.prog 43 #[.int .u32 y, .pointer (some ⟨ba, 0, none⟩)] w fun e w' => e = .returned (.bool (dec (StuckN g s))) ∧ Below w.heap.size w w' := by
  subst hy
  have hbx := h.box.cell
  have H := Lib.hid h
  have HS := Lib.hid hs
  clear h hs
  by_cases hst : StuckN g s
  · have HST := Lib.hid hst
    have hd := Lib.hid (dec_true hst)
    clear hst
    go_enter Tryd.func43, Tryd.ntmps43
    go_wp2_with (go_at_call 44; refine (prunedOf_any _ _ g s rfl _ ⟨lOk_of_lt H.out.ok HS.out, H.out.sl⟩ (bits_len16 H.out.ok HS.out) H.out.tab).mono ?_; rintro e w5 ⟨ov, fs, l, rfl, hF, ho5, hl16, hcnt5, hT5, hb5⟩; have hl0 : l ≠ 0 := (fun e0 => (stuck_iff hF).1 HST.out (by rw [e0, bitsOf_zero]; rfl)); clear hF ho5 hT5)
    go_ret
    exact ⟨by rw [hd.out]; exact ret_bool (by simpa using hl0), hb5⟩
  · have HST := Lib.hid hst
    have hd := Lib.hid (dec_false hst)
    clear hst
    go_enter Tryd.func43, Tryd.ntmps43
    go_wp2_with (go_at_call 44; refine (prunedOf_any _ _ g s rfl _ ⟨lOk_of_lt H.out.ok HS.out, H.out.sl⟩ (bits_len16 H.out.ok HS.out) H.out.tab).mono ?_; rintro e w5 ⟨ov, fs, l, rfl, hF, ho5, hl16, hcnt5, hT5, hb5⟩; have hl0 : l = 0 := bits_nil0 hl16 (fun e0 => HST.out ((stuck_iff hF).2 e0)); clear hF ho5 hT5)
    go_ret
    exact ⟨by rw [hd.out]; exact ret_bool (by simp [hl0]), hb5⟩

/-- The call's own variables: the function and what was found. -/
structure ObW (wB : World) (ba : Nat) (z : Int) (w : World) : Prop where
  bel : Below wB.heap.size wB w
  fit : Box w wB.heap.size 69 (.func (.func 43) #[] #[.pointer (some ⟨ba, 0, none⟩)])
  fnd : Box w (wB.heap.size + 1) 64 (.int .u32 z)
theorem ObW.next {wB w w' : World} {ba : Nat} {z : Int} (h : ObW wB ba z w) (hb : Below w.heap.size w w') : ObW wB ba z w' :=
  ⟨h.bel.trans (hb.mono h.bel.size), h.fit.keep hb, h.fnd.keep hb⟩
theorem ObW.set {wB w : World} {ba : Nat} {z : Int} (h : ObW wB ba z w) (y : Int) : ObW wB ba y (w.setCell ⟨wB.heap.size + 1, 0, none⟩ (.int .u32 y)) :=
  ⟨h.bel.setCell (by show wB.heap.size ≤ wB.heap.size + 1; omega) _, h.fit.setOther (by show wB.heap.size ≠ wB.heap.size + 1; omega) _, h.fnd.set _⟩

set_option maxRecDepth 100000 in
set_option maxHeartbeats 1000000 in
theorem each_any (y : Int) (s : Nat) (hy : y = s) (g : List (List Int)) (xp : Option Addr) (xc ba : Nat) (hs : s < 2 ^ g.length) (wB w : World) (z : Int) (hB : ObBase wB g xp xc ba) (hW : ObW wB ba z w) :
    Calls Tryd.prog 109 #[.int .u32 y, .pointer (some ⟨wB.heap.size + 1, 0, none⟩), .pointer (some ⟨wB.heap.size, 0, none⟩)] w fun e w' => e = .returned (.bool (dec (StuckN g s))) ∧ ObW wB ba s w' := by
  subst hy
  have c1 := hW.fnd.cell
  have f1 := hW.fnd.free
  have HB := Lib.hid hB
  have HW2 := Lib.hid (hW.set (s : Int))
  have c2 := HW2.out.fit.cell
  have HS := Lib.hid hs
  clear hB hW hs
  go_enter Tryd.func109, Tryd.ntmps109
  go_wp2_with (go_at_call 43; refine (fits_any _ s rfl g xp xc ba HS.out _ (HB.out.next HW2.out.bel)).mono ?_; rintro e w3 ⟨rfl, hb3⟩)
  go_ret
  exact ⟨rfl, HW2.out.next hb3⟩

end Go.Proofs.YtfokiijcpkhllaaDoor

/- Walks: chooseSets. -/
namespace Go.Proofs.YtfokiijcpkhllaaDoor
open Go.RowKit

theorem ch_yes_no {P : Nat → Prop} {n lo many chosen : Nat} (h : ChNo P n lo many chosen) : ¬ ∃ s, ChYes P n lo many chosen s := by
  rintro ⟨s, T, h1, h2, h3, _⟩
  exact h T h1 (h2 ▸ h3)
theorem or_one {c v n : Nat} (hc : c < 2 ^ n) (hv : v < n) : c ||| 2 ^ v < 2 ^ n := Nat.or_lt_two_pow hc (Nat.pow_lt_pow_right (by decide) hv)

/-- What chooseSets leaves. -/
def ChR (g : List (List Int)) (wB : World) (ba lo many chosen : Nat) (e : Ending) (w' : World) : Prop :=
  e = .returned (.bool (dec (∃ s, ChYes (StuckN g) g.length lo many chosen s))) ∧ ∃ z' : Int, ObW wB ba z' w' ∧ ((∃ s : Nat, z' = s ∧ ChYes (StuckN g) g.length lo many chosen s) ∨ ChNo (StuckN g) g.length lo many chosen)

set_option maxRecDepth 100000 in
set_option maxHeartbeats 4000000 in
theorem chooseSets_any (g : List (List Int)) (xp : Option Addr) (xc ba : Nat) (wB : World) (hB : ObBase wB g xp xc ba) : ∀ (many lo chosen : Nat) (yl ym yc : Int), yl = lo → ym = many → yc = chosen → chosen < 2 ^ g.length → many ≤ g.length → lo ≤ g.length → ∀ (w : World) (z : Int), ObW wB ba z w →
    Calls Tryd.prog 108 #[.int .i64 g.length, .int .i64 yl, .int .i64 ym, .int .u32 yc, .func (.func 109) #[] #[.pointer (some ⟨wB.heap.size + 1, 0, none⟩), .pointer (some ⟨wB.heap.size, 0, none⟩)]] w fun e w' => ChR g wB ba lo many chosen e w' := by
  intro many
  have HB := Lib.hid hB
  have h8 := hB.h8
  clear hB
  induction many with
  | zero =>
    rintro lo chosen yl ym yc rfl rfl rfl hc _ _ w z hW
    have HW := Lib.hid hW
    have HC := Lib.hid hc
    clear hW hc
    by_cases hst : StuckN g chosen
    · have hd := Lib.hid (dec_true hst)
      have HST := Lib.hid hst
      clear hst
      go_enter Tryd.func108, Tryd.ntmps108
      go_wp2_with (go_at_call 109; refine (each_any _ chosen rfl g xp xc ba HC.out wB _ z HB.out HW.out).mono ?_; rintro e w3 ⟨rfl, hW3⟩; have HW3 := Lib.hid hW3; clear hW3)
      go_ret
      exact ⟨by rw [hd.out, dec_true (show ∃ s, ChYes (StuckN g) g.length lo 0 chosen s from ⟨_, chYes_zero HST.out⟩)]; rfl, _, HW3.out, .inl ⟨chosen, rfl, chYes_zero HST.out⟩⟩
    · have hd := Lib.hid (dec_false hst)
      have HST := Lib.hid hst
      clear hst
      go_enter Tryd.func108, Tryd.ntmps108
      go_wp2_with (go_at_call 109; refine (each_any _ chosen rfl g xp xc ba HC.out wB _ z HB.out HW.out).mono ?_; rintro e w3 ⟨rfl, hW3⟩; have HW3 := Lib.hid hW3; clear hW3)
      go_ret
      exact ⟨by rw [hd.out, dec_false (ch_yes_no (chNo_zero HST.out))]; rfl, _, HW3.out, .inr (chNo_zero HST.out)⟩
  | succ many ih =>
    rintro lo chosen yl ym yc rfl hym rfl hc hmn hln w z hW
    obtain ⟨m, hm⟩ : ∃ m : Nat, m = many + 1 := ⟨_, rfl⟩
    obtain rfl : ym = (m : Int) := by omega
    have hm1 : m ≤ many + 1 := by omega
    have hm2 : many + 1 ≤ m := by omega
    have hm0 : ((m : Int) == 0) = false := by simp; omega
    clear hym hm
    have IH := Lib.hid ih
    have HW := Lib.hid hW
    have HC := Lib.hid hc
    clear hW hc ih
    go_enter Tryd.func108, Tryd.ntmps108
    go_wp2
    go_loopw [11] (fun i wr => ∃ (v : Nat) (z' : Int), lo ≤ v ∧ v ≤ g.length ∧ i = .int .i64 v ∧ ChTo (StuckN g) g.length lo (many + 1) chosen v ∧ ObW wB ba z' wr) (fun i _ => g.length - (intOf i).toNat)
    case atStart => exact ⟨lo, z, Nat.le_refl _, hln, rfl, chTo_start _ _ _ _ _, HW.out⟩
    case round =>
      clear HW
      obtain ⟨v, z1, hlo, hvn, rfl, hto, hW⟩ := hrel
      have HTO := Lib.hid hto
      have HW := Lib.hid hW
      clear hto hW
      have hwr : wrap64 ((v : Int) + (m : Int)) = (v : Int) + (m : Int) := by unfold wrap64; omega
      have hwr1 : wrap64 ((v : Int) + 1) = (v : Int) + 1 := by unfold wrap64; omega
      by_cases hle : v + (many + 1) ≤ g.length
      · have hli : (v : Int) + (m : Int) ≤ (g.length : Int) := by omega
        have hc2 := or_one HC.out (show v < g.length by omega)
        have hor := Lib.hid (u32_or_nat chosen (2 ^ v) (by have := (cand_bits (by omega) HC.out).2; omega) (pow_lt32 v (by omega)))
        obtain ⟨t, ht⟩ : ∃ t, t = chosen ||| 2 ^ v := ⟨_, rfl⟩
        have HT := Lib.hid ht
        rw [← ht] at hc2
        have HC2 := Lib.hid hc2
        clear ht hc2
        by_cases hyes : ∃ s, ChYes (StuckN g) g.length (v + 1) many t s
        · have hd := Lib.hid (dec_true hyes)
          have HY := Lib.hid hyes
          clear hyes
          go_wp2_with (first
            | (go_at_call 108; refine (IH.out (v + 1) t _ _ _ (by omega) (by omega) (by rw [HT.out]; exact hor.out) HC2.out (by omega) (by omega) _ z1 HW.out).mono ?_; rintro e w3 ⟨he3, z3, hW3, hr3⟩; rw [hd.out] at he3; subst he3; have HW3 := Lib.hid hW3; have HR3 := Lib.hid hr3; clear hW3 hr3)
            | (go_at_call 74; refine (one_any _ v rfl (by omega) _).mono ?_; rintro e w2 ⟨rfl, rfl⟩))
          go_ret
          rcases HR3.out with ⟨s, hz, hy⟩ | hno
          · have hY := chYes_step HTO.out hlo (by omega) (HT.out ▸ hy)
            exact ⟨by rw [dec_true (show ∃ s, ChYes (StuckN g) g.length lo (many + 1) chosen s from ⟨s, hY⟩)]; rfl, z3, HW3.out, .inl ⟨s, hz, hY⟩⟩
          · exact absurd HY.out (ch_yes_no hno)
        · have hd := Lib.hid (dec_false hyes)
          have HY := Lib.hid hyes
          clear hyes
          go_wp2_with (first
            | (go_at_call 108; refine (IH.out (v + 1) t _ _ _ (by omega) (by omega) (by rw [HT.out]; exact hor.out) HC2.out (by omega) (by omega) _ z1 HW.out).mono ?_; rintro e w3 ⟨he3, z3, hW3, hr3⟩; rw [hd.out] at he3; subst he3; have HW3 := Lib.hid hW3; have HR3 := Lib.hid hr3; clear hW3 hr3)
            | (go_at_call 74; refine (one_any _ v rfl (by omega) _).mono ?_; rintro e w2 ⟨rfl, rfl⟩))
          go_roundw
          case rel =>
            rcases HR3.out with ⟨s, hz, hy⟩ | hno
            · exact absurd ⟨s, hy⟩ HY.out
            · exact ⟨v + 1, z3, by omega, by omega, by go_num, chTo_step HTO.out (HT.out ▸ hno), HW3.out⟩
          case measure => simp [intOf]; omega
      · have hli : ¬ (v : Int) + (m : Int) ≤ (g.length : Int) := by omega
        have hN := chNo_end HTO.out (show g.length < v + (many + 1) by omega)
        have HN := Lib.hid hN
        clear hN
        go_wp2
        go_ret
        exact ⟨by rw [dec_false (ch_yes_no HN.out)]; rfl, z1, HW.out, .inr HN.out⟩

end Go.Proofs.YtfokiijcpkhllaaDoor

/- Walks: smallestSet; the program's ObstacleOf. -/
namespace Go.Proofs.YtfokiijcpkhllaaDoor
open Go.RowKit

set_option maxRecDepth 100000 in
set_option maxHeartbeats 4000000 in
theorem smallestSet_any (g : List (List Int)) (xp : Option Addr) (xc ba : Nat) (w : World) (hB : ObBase w g xp xc ba) :
    Calls Tryd.prog 42 #[.int .i64 g.length, .func (.func 43) #[] #[.pointer (some ⟨ba, 0, none⟩)]] w fun e w' => ∃ z : Int, e = .returned (.tuple #[.int .u32 z, .bool (dec (∃ t, t < 2 ^ g.length ∧ StuckN g t))]) ∧
      ((∃ s : Nat, z = s ∧ LeastP (StuckN g) g.length s) ∨ ∀ t, t < 2 ^ g.length → ¬ StuckN g t) ∧ Below w.heap.size w w' := by
  have HB := Lib.hid hB
  have h8 := hB.h8
  have HW0 : Hid (ObW w ba 0 ((w.alloc (.cells #[.func (.func 43) #[] #[.pointer (some ⟨ba, 0, none⟩)]] 69)).alloc (.cells #[.int .u32 0] 64))) := Lib.hid
    { bel := below_alloc2 w _ _
      fit := (Box.new w _ _).alloc _
      fnd := by
        have := Box.new (w.alloc (.cells #[.func (.func 43) #[] #[.pointer (some ⟨ba, 0, none⟩)]] 69)) (.int .u32 0) 64
        rwa [size_alloc] at this }
  clear hB
  go_enter Tryd.func42, Tryd.ntmps42
  go_wp2
  go_loopw [7] (fun i wr => ∃ (m : Nat) (z' : Int), m ≤ g.length + 1 ∧ i = .int .i64 m ∧ (∀ m', m' < m → ChNo (StuckN g) g.length 0 m' 0) ∧ ObW w ba z' wr) (fun i _ => g.length + 1 - (intOf i).toNat)
  case atStart => exact ⟨0, 0, Nat.zero_le _, rfl, fun m' h => by omega, HW0.out⟩
  case round =>
    clear HW0
    obtain ⟨m, z1, hm, rfl, hno, hW⟩ := hrel
    have HNO := Lib.hid hno
    have HW := Lib.hid hW
    clear hno hW
    by_cases hle : m ≤ g.length
    · have hli : (m : Int) ≤ (g.length : Int) := by omega
      by_cases hyes : ∃ s, ChYes (StuckN g) g.length 0 m 0 s
      · have hd := Lib.hid (dec_true hyes)
        have HY := Lib.hid hyes
        clear hyes
        go_wp2_with (go_at_call 108; refine (chooseSets_any g xp xc ba w HB.out m 0 0 _ _ _ rfl rfl rfl (Nat.two_pow_pos _) hle (Nat.zero_le _) _ z1 HW.out).mono ?_; rintro e w3 ⟨he3, z3, hW3, hr3⟩; rw [hd.out] at he3; subst he3; have c3 := hW3.fnd.cell; have HW3 := Lib.hid hW3; have HR3 := Lib.hid hr3; clear hW3 hr3)
        go_ret2
        rcases HR3.out with ⟨s, hz, hy⟩ | hno
        · have hL := least_ch (by omega) HNO.out hy
          exact ⟨z3, by rw [dec_true (show ∃ t, t < 2 ^ g.length ∧ StuckN g t from ⟨s, hL.1, hL.2.1⟩)]; rfl, .inl ⟨s, hz, hL⟩, HW3.out.bel⟩
        · exact absurd HY.out (ch_yes_no hno)
      · have hd := Lib.hid (dec_false hyes)
        have HY := Lib.hid hyes
        clear hyes
        go_wp2_with (go_at_call 108; refine (chooseSets_any g xp xc ba w HB.out m 0 0 _ _ _ rfl rfl rfl (Nat.two_pow_pos _) hle (Nat.zero_le _) _ z1 HW.out).mono ?_; rintro e w3 ⟨he3, z3, hW3, hr3⟩; rw [hd.out] at he3; subst he3; have HW3 := Lib.hid hW3; have HR3 := Lib.hid hr3; clear hW3 hr3)
        go_roundw
        case rel =>
          rcases HR3.out with ⟨s, hz, hy⟩ | hno
          · exact absurd ⟨s, hy⟩ HY.out
          · refine ⟨m + 1, z3, by omega, by go_num, fun m' h => ?_, HW3.out⟩
            by_cases e : m' < m
            · exact HNO.out m' e
            · obtain rfl : m' = m := by omega
              exact hno
        case measure => simp [intOf]; omega
    · obtain rfl : m = g.length + 1 := by omega
      have hN := none_ch (by omega) HNO.out
      have HN := Lib.hid hN
      clear hN
      go_wp2
      go_ret2
      exact ⟨0, by rw [dec_false (show ¬ ∃ t, t < 2 ^ g.length ∧ StuckN g t from fun ⟨t, h1, h2⟩ => HN.out t h1 h2)]; rfl, .inr HN.out, HW.out.bel⟩

set_option maxRecDepth 100000 in
set_option maxHeartbeats 2000000 in
theorem implObstacleOf_any (v : Value) (g : List (List Int)) (w : World) (hg : Gr w v g) (hT : Tab w) :
    Calls Tryd.prog 11 #[v] w fun e w' => ∃ (ov : Value) (ys : List Int), e = .returned (.tuple #[ov, .bool (dec (ObB g))]) ∧ ObS g ys ∧ ys.length ≤ 16 ∧
      w'.ownsRow w.heap.size 2 1 ov ys.length (ys.map (Value.int .i64)) ∧ Below w.heap.size w w' := by
  have hg0 := hg
  obtain ⟨u, rfl, hr⟩ := hg
  obtain ⟨p, c, rfl, _, _, _⟩ := hr.shape
  have hbA := Lib.hid (below_alloc w (.cells #[.slice p g.length c] 29))
  have HG := Lib.hid (hg0.below hbA.out)
  have BX := Lib.hid (Box.new w (.slice p g.length c) 29)
  have HT := Lib.hid (hT.keep hbA.out)
  have s0 := hbA.out.size
  clear hr hg0 hT
  by_cases hok : GOk g ∧ g.length ≤ 8
  case neg =>
    obtain ⟨hno, hS⟩ := obS_out hok
    have hnd := Lib.hid (dec_false hno)
    have HS := Lib.hid hS
    have hd := dec_false hok
    clear hno hS hok
    go_enter Tryd.func11, Tryd.ntmps11
    go_wp2_with (go_at_call 40; refine (isSmall_any _ g _ HG.out).mono ?_; rintro e w2 ⟨he, hb2⟩; rw [hd] at he; subst he)
    go_ret2
    exact ⟨_, [], by rw [hnd.out]; rfl, HS.out, by simp, ⟨rfl, .inl ⟨rfl, rfl⟩⟩, hbA.out.trans (hb2.mono hbA.out.size)⟩
  have hd := dec_true hok
  have h16 := hok.1.le
  have Hok := Lib.hid hok
  clear hok
  by_cases hyes : ∃ t, t < 2 ^ g.length ∧ StuckN g t
  · have hd2 := Lib.hid (dec_true hyes)
    have HY := Lib.hid hyes
    clear hyes
    go_enter Tryd.func11, Tryd.ntmps11
    go_wp2_with (first
      | (go_at_call 40; refine (isSmall_any _ g _ HG.out).mono ?_; rintro e w2 ⟨he, hb2⟩; rw [hd] at he; subst he; have hbx := (BX.out.keep hb2).cell)
      | (go_at_call 41; refine (netsOf_any _ g _ (HG.out.below hb2) Hok.out.1).mono ?_; rintro e w3 ⟨x, rfl, hown3, hb3⟩; have hx3 := Sl.of_owns hown3 (by omega); obtain ⟨xp, xc, rfl⟩ := hx3.shapeP; have HB3 := Lib.hid (below_alloc w3 (.cells #[.slice xp g.length xc] 61)); have HBS := Lib.hid (show ObBase (w3.alloc (.cells #[.slice xp g.length xc] 61)) g xp xc w3.heap.size from ⟨Hok.out.1, Hok.out.2, Box.new _ _ _, hx3.below HB3.out, ((HT.out.keep hb2).keep hb3).keep HB3.out⟩); clear hx3 hown3)
      | (go_at_call 42; refine (smallestSet_any g xp xc w3.heap.size _ HBS.out).mono ?_; rintro e w4 ⟨z, he4, hz4, hb4⟩; rw [hd2.out] at he4; subst he4; obtain ⟨s, rfl, hL⟩ := hz4.resolve_right (fun h => HY.out.elim fun t ht => h t ht.1 ht.2); have HL := Lib.hid hL; clear hL hz4)
      | (go_at_call 45; refine (numbers_any _ s rfl (by have := (cand_bits h16 HL.out.1).2; omega) _ (HBS.out.tab.keep hb4)).mono ?_; rintro e w6 ⟨lv, rfl, ho6, hb6⟩; have HO6 := Lib.hid ho6; clear ho6))
    have hb' : Below w.heap.size w w4 := ((hbA.out.trans (hb2.mono s0)).trans (hb3.mono (Nat.le_trans s0 hb2.size))).trans ((HB3.out.mono (Nat.le_trans (Nat.le_trans s0 hb2.size) hb3.size)).trans (hb4.mono (by rw [size_alloc]; have := hb2.size; have := hb3.size; omega)))
    have s4 := hb'.size
    go_ret2
    obtain ⟨hb, hS, hl16⟩ := obS_some Hok.out.1 Hok.out.2 HL.out
    exact ⟨lv, natInts (bitsOf s), by rw [dec_true hb]; rfl, hS, hl16, by rw [natInts_length]; exact ownsRow_base HO6.out (by omega), hb'.trans (hb6.mono s4)⟩
  · obtain ⟨hno, hS⟩ := obS_none (g := g) (fun t h1 h2 => hyes ⟨t, h1, h2⟩)
    have hnd := Lib.hid (dec_false hno)
    have HS := Lib.hid hS
    have hd2 := Lib.hid (dec_false hyes)
    clear hyes hno hS
    go_enter Tryd.func11, Tryd.ntmps11
    go_wp2_with (first
      | (go_at_call 40; refine (isSmall_any _ g _ HG.out).mono ?_; rintro e w2 ⟨he, hb2⟩; rw [hd] at he; subst he; have hbx := (BX.out.keep hb2).cell)
      | (go_at_call 41; refine (netsOf_any _ g _ (HG.out.below hb2) Hok.out.1).mono ?_; rintro e w3 ⟨x, rfl, hown3, hb3⟩; have hx3 := Sl.of_owns hown3 (by omega); obtain ⟨xp, xc, rfl⟩ := hx3.shapeP; have HB3 := Lib.hid (below_alloc w3 (.cells #[.slice xp g.length xc] 61)); have HBS := Lib.hid (show ObBase (w3.alloc (.cells #[.slice xp g.length xc] 61)) g xp xc w3.heap.size from ⟨Hok.out.1, Hok.out.2, Box.new _ _ _, hx3.below HB3.out, ((HT.out.keep hb2).keep hb3).keep HB3.out⟩); clear hx3 hown3)
      | (go_at_call 42; refine (smallestSet_any g xp xc w3.heap.size _ HBS.out).mono ?_; rintro e w4 ⟨z, he4, hz4, hb4⟩; rw [hd2.out] at he4; subst he4; clear hz4))
    have hb' : Below w.heap.size w w4 := ((hbA.out.trans (hb2.mono s0)).trans (hb3.mono (Nat.le_trans s0 hb2.size))).trans ((HB3.out.mono (Nat.le_trans (Nat.le_trans s0 hb2.size) hb3.size)).trans (hb4.mono (by rw [size_alloc]; have := hb2.size; have := hb3.size; omega)))
    have s4 := hb'.size
    go_ret2
    exact ⟨_, [], by rw [hnd.out]; rfl, HS.out, by simp, ⟨rfl, .inl ⟨rfl, rfl⟩⟩, hb'⟩

end Go.Proofs.YtfokiijcpkhllaaDoor
