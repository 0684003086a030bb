/- Walks: the program's mostEdges, BarrierOf (printed by wip/mkBaF.py). -/
import Derived.Test.YtiooindlpinjhaaDoorBbQ22
import Derived.Test.YtiooindlpinjhaaDoorBbQ1
import Derived.Deep.RegionHeld
import Derived.Deep.RegionLaw
namespace Go.Proofs.YtiooindlpinjhaaDoor
open Go.RowKit

set_option maxRecDepth 100000 in
set_option maxHeartbeats 1000000 in
theorem mostEdges_any (xp : Option Addr) (xc n N : Nat) (E : Nat → Nat → Bool) (hN : N = 2 ^ n) (hsy : ∀ x y, E x y = true → E y x = true) (w : World) (hx : NE w (.slice xp n xc) n E) (hT : Tab w) :
    Calls Tryd.prog 55 #[.slice xp n xc] w fun e w' => ∃ (kb : Nat) (D : List Int), e = .returned (.slice (some ⟨kb, 0, none⟩) N N) ∧ TbI w w' E kb N N D := by
  have HX := Lib.hid hx
  have HT := Lib.hid hT
  have HN := Lib.hid hN
  clear hx hT hN
  go_enter Tryd.func55, Tryd.ntmps55
  go_wp2_with (go_at_call 123; refine (onSets_any xp xc n N E HN.out hsy _ HX.out HT.out).mono ?_; rintro e w2 ⟨kb, D, rfl, hI⟩; have HI := Lib.hid hI; clear hI)
  go_ret
  exact ⟨kb, D, rfl, HI.out⟩

/-- What stands below the call. -/
structure BaBase (w : World) (n : Nat) (E : Nat → Nat → Bool) (xp : Option Addr) (xc ba bg : Nat) (gap : Int) : Prop where
  h16 : n ≤ 16
  box : Box w ba 67 (.slice xp n xc)
  boxg : Box w bg 3 (.int .i64 gap)
  ne : NE w (.slice xp n xc) n E
  tab : Tab w
  gapE : gap = (n : Int) - 2 * (nuL E (List.range n) : Int)
theorem BaBase.next {w w' : World} {n : Nat} {E : Nat → Nat → Bool} {xp : Option Addr} {xc ba bg : Nat} {gap : Int} (h : BaBase w n E xp xc ba bg gap) (hb : Below w.heap.size w w') : BaBase w' n E xp xc ba bg gap :=
  ⟨h.h16, h.box.keep hb, h.boxg.keep hb, h.ne.next hb, h.tab.keep hb, h.gapE⟩
theorem left_lt {n s M t : Nat} (hn : n ≤ 16) (hs : s < 2 ^ n) (hM : M = 2 ^ n - 1) (ht : t = Go.Proofs.YtiooindlpinjhaaDoor.sub M s) : t < 65536 ∧ bitsOf t = leftK n s ∧ ∀ i, t.testBit i = true → i < n := by
  have hp : 2 ^ n ≤ 2 ^ 16 := Nat.pow_le_pow_right (by decide) hn
  have ht16 : t < 65536 := by rw [ht]; exact sub_lt16 _ _ (by omega)
  have e : bitsOf t = leftK n s := by rw [ht, hM]; rfl
  refine ⟨ht16, e, fun i hi => ?_⟩
  have := (mem_left ht16).2 hi
  rw [e] at this
  exact List.mem_range.1 ((mem_leftK hn hs).1 this).1

set_option maxRecDepth 100000 in
set_option maxHeartbeats 4000000 in
theorem fitsBar_any (y : Int) (s : Nat) (hy : y = s) (n : Nat) (E : Nat → Nat → Bool) (xp : Option Addr) (xc ba bg : Nat) (gap : Int) (hs : s < 2 ^ n) (w : World) (h : BaBase w n E xp xc ba bg gap) :
    Calls Tryd.prog 58 #[.int .u32 y, .pointer (some ⟨ba, 0, none⟩), .pointer (some ⟨bg, 0, none⟩)] w fun e w' => e = .returned (.bool (dec (BarP n E s))) ∧ Below w.heap.size w w' := by
  subst hy
  have n16 := h.h16
  have hs16 := (cand_bits n16 hs).2
  obtain ⟨M, hM⟩ : ∃ M, M = 2 ^ n - 1 := ⟨_, rfl⟩
  have hp : 2 ^ n ≤ 2 ^ 16 := Nat.pow_le_pow_right (by decide) n16
  have hM16 : M < 65536 := by omega
  obtain ⟨t, ht⟩ : ∃ t, t = Go.Proofs.YtiooindlpinjhaaDoor.sub M s := ⟨_, rfl⟩
  obtain ⟨q1, q2, q3⟩ := left_lt n16 hs hM ht
  have hand : bits BinOp.andNot IntKind.u32 (M : Int) (s : Int) = (t : Int) := by rw [ht]; exact u32_andNot_nat M s (by omega) (by omega)
  have ALL : Hid (∀ (wz : World), Calls Tryd.prog 56 #[.slice xp n xc] wz fun e w' => e = .returned (.int .u32 (M : Int)) ∧ wz = w') := Lib.hid fun wz => all_any' xp n xc M (by omega) hM wz
  obtain ⟨od, hod⟩ : ∃ od, od = oddN n E s := ⟨_, rfl⟩
  obtain ⟨ns, hns⟩ : ∃ ns, ns = (bitsOf s).length := ⟨_, rfl⟩
  have hns16 : ns ≤ 32 := by rw [hns]; exact bitsOf_length s
  have hod32 : od ≤ 32 := by
    rw [hod]
    obtain ⟨ps, h1, h2⟩ := oddK_parts E (leftK n s)
    have h3 := oddL_le ps
    have h4 := parts_fewBa h1
    have h5 : (leftK n s).length ≤ 32 := by rw [← q2]; exact bitsOf_length t
    unfold oddN
    omega
  have ODD : Hid (∀ wz, NE wz (.slice xp n xc) n E → Tab wz → Calls Tryd.prog 59 #[.slice xp n xc, .int .u32 (t : Int)] wz fun e w' => e = .returned (.int .i64 (od : Int)) ∧ Below wz.heap.size wz w') := Lib.hid fun wz h1 h2 => by
    have := oddParts_any (.slice xp n xc) (t : Int) n E t rfl q1 q3 wz h1 h2
    rw [q2] at this
    rw [hod]
    exact this
  have SZ : Hid (∀ wz, Calls Tryd.prog 60 #[.int .u32 (s : Int)] wz fun e w' => e = .returned (.int .i64 (ns : Int)) ∧ Below wz.heap.size wz w') := Lib.hid fun wz => by
    refine (size16_any _ s rfl hs16 wz).mono ?_
    rintro e w' ⟨rfl, q, rfl⟩
    rw [hns]
    exact ⟨rfl, below_dN (Below.refl _ _) _⟩
  obtain ⟨d, hd⟩ : ∃ d : Int, d = (od : Int) - (ns : Int) := ⟨_, rfl⟩
  have hwd : IntKind.i64.wrap ((od : Int) - (ns : Int)) = d := by rw [IntKind.wrap_i64]; omega
  have HR : Hid ((d == gap) = dec (BarP n E s)) := Lib.hid (by
    have e : (d = gap) ↔ BarP n E s := by
      unfold BarP
      rw [← hod, ← hns, hd, h.gapE]
      omega
    by_cases k : BarP n E s
    · rw [dec_true k]; exact beq_iff_eq.2 (e.2 k)
    · rw [dec_false k]; exact beq_eq_false_iff_ne.2 fun c => k (e.1 c))
  obtain ⟨R, hR⟩ : ∃ R, R = dec (BarP n E s) := ⟨_, rfl⟩
  rw [← hR] at HR ⊢
  have hcmp := HR.out
  have ca := h.box.cell
  have cg := h.boxg.cell
  have HBA := Lib.hid h
  clear h hM ht q1 q2 q3 hod hns hd hR hs hp HR
  go_enter Tryd.func58, Tryd.ntmps58
  go_upto_region 1 with fail
  go_cut [4] (fun sv wx => sv = .bool R ∧ Below w.heap.size w wx)
  case first =>
    go_region_held3 (fun Z => Z.cell? ⟨ba, 0, none⟩ = some (.slice xp n xc) ∧ Z.cell? ⟨bg, 0, none⟩ = some (.int .i64 gap))
      (first | exact ⟨ca, cg⟩ | go_keep | exact ⟨BWB.at' ca, BWB.at' cg⟩ | exact ⟨BWA.at' ca, BWA.at' cg⟩)
      (first
        | (go_at_call 60; refine (SZ.out _).mono ?_; rintro e wb ⟨rfl, hb⟩; have BWB : Below w.heap.size w wb := BWA.trans (hb.mono BWA.size); clear hb)
        | (go_at_call 59; refine (ODD.out _ (HBA.out.next (below_dN (Below.refl _ _) 1)).ne (HBA.out.next (below_dN (Below.refl _ _) 1)).tab).mono ?_; rintro e wa ⟨rfl, hb⟩; have BWA : Below w.heap.size w wa := (below_dN (Below.refl _ _) 1).trans hb; clear hb)
        | (go_at_call 56; refine (ALL.out _).mono ?_; rintro e wz ⟨rfl, hw⟩; subst hw))
    all_goals go_wp2
    all_goals go_meet
    all_goals exact ⟨by first | rfl | (rw [hcmp]) | (simp [hcmp]), BWB⟩
  case rest =>
  obtain ⟨rfl, hb⟩ := hcut
  go_wp2_with fail
  go_ret
  exact ⟨rfl, hb⟩

/-- The call's own variables: the function and what was found. -/
structure BaW (wB : World) (ba bg : Nat) (z : Int) (w : World) : Prop where
  bel : Below wB.heap.size wB w
  fit : Box w wB.heap.size 77 (.func (.func 58) #[] #[.pointer (some ⟨ba, 0, none⟩), .pointer (some ⟨bg, 0, none⟩)])
  fnd : Box w (wB.heap.size + 1) 71 (.int .u32 z)
theorem BaW.next {wB w w' : World} {ba bg : Nat} {z : Int} (h : BaW wB ba bg z w) (hb : Below w.heap.size w w') : BaW wB ba bg z w' :=
  ⟨h.bel.trans (hb.mono h.bel.size), h.fit.keep hb, h.fnd.keep hb⟩
theorem BaW.set {wB w : World} {ba bg : Nat} {z : Int} (h : BaW wB ba bg z w) (y : Int) : BaW wB ba bg y (w.setCell ⟨wB.heap.size + 1, 0, none⟩ (.int .u32 y)) :=
  ⟨h.bel.setCell (by show wB.heap.size ≤ wB.heap.size + 1; omega) _, h.fit.setOther (by show wB.heap.size ≠ wB.heap.size + 1; omega) _, h.fnd.set _⟩

set_option maxRecDepth 100000 in
set_option maxHeartbeats 1000000 in
theorem eachBar_any (y : Int) (s : Nat) (hy : y = s) (n : Nat) (E : Nat → Nat → Bool) (xp : Option Addr) (xc ba bg : Nat) (gap : Int) (hs : s < 2 ^ n) (wB w : World) (z : Int) (hB : BaBase wB n E xp xc ba bg gap) (hW : BaW wB ba bg z w) :
    Calls Tryd.prog 125 #[.int .u32 y, .pointer (some ⟨wB.heap.size + 1, 0, none⟩), .pointer (some ⟨wB.heap.size, 0, none⟩)] w fun e w' => e = .returned (.bool (dec (BarP n E s))) ∧ BaW wB ba bg s w' := by
  subst hy
  have c1 := hW.fnd.cell
  have f1 := hW.fnd.free
  have HB := Lib.hid hB
  have HW2 := Lib.hid (hW.set (s : Int))
  have c2 := HW2.out.fit.cell
  have HS := Lib.hid hs
  clear hB hW hs
  go_enter Tryd.func125, Tryd.ntmps125
  go_wp2_with (go_at_call 58; refine (fitsBar_any _ s rfl n E xp xc ba bg gap HS.out _ (HB.out.next HW2.out.bel)).mono ?_; rintro e w3 ⟨rfl, hb3⟩)
  go_ret
  exact ⟨rfl, HW2.out.next hb3⟩

theorem ch_yes_noBa {P : Nat → Prop} {n lo many chosen : Nat} (h : ChNo P n lo many chosen) : ¬ ∃ s, ChYes P n lo many chosen s := by
  rintro ⟨s, T, h1, h2, h3, _⟩
  exact h T h1 (h2 ▸ h3)
theorem or_oneBa {c v n : Nat} (hc : c < 2 ^ n) (hv : v < n) : c ||| 2 ^ v < 2 ^ n := Nat.or_lt_two_pow hc (Nat.pow_lt_pow_right (by decide) hv)

/-- What chooseSets leaves. -/
def ChVBa (n : Nat) (E : Nat → Nat → Bool) (wB : World) (ba bg lo many chosen : Nat) (e : Ending) (w' : World) : Prop :=
  e = .returned (.bool (dec (∃ s, ChYes (BarP n E) n lo many chosen s))) ∧ ∃ z' : Int, BaW wB ba bg z' w' ∧ ((∃ s : Nat, z' = s ∧ ChYes (BarP n E) n lo many chosen s) ∨ ChNo (BarP n E) n lo many chosen)

set_option maxRecDepth 100000 in
set_option maxHeartbeats 4000000 in
theorem chooseSets_anyBa (n : Nat) (E : Nat → Nat → Bool) (xp : Option Addr) (xc ba bg : Nat) (gap : Int) (wB : World) (hB : BaBase wB n E xp xc ba bg gap) : ∀ (many lo chosen : Nat) (yl ym yc : Int), yl = lo → ym = many → yc = chosen → chosen < 2 ^ n → many ≤ n → lo ≤ n → ∀ (w : World) (z : Int), BaW wB ba bg z w →
    Calls Tryd.prog 89 #[.int .i64 n, .int .i64 yl, .int .i64 ym, .int .u32 yc, .func (.func 125) #[] #[.pointer (some ⟨wB.heap.size + 1, 0, none⟩), .pointer (some ⟨wB.heap.size, 0, none⟩)]] w fun e w' => ChVBa n E wB ba bg lo many chosen e w' := by
  intro many
  have HB := Lib.hid hB
  have h16 := hB.h16
  clear hB
  induction many with
  | zero =>
    rintro lo chosen yl ym yc rfl rfl rfl hc _ _ w z hW
    have HW := Lib.hid hW
    have HC := Lib.hid hc
    clear hW hc
    by_cases hst : BarP n E chosen
    · have hd := Lib.hid (dec_true hst)
      have HST := Lib.hid hst
      clear hst
      go_enter Tryd.func89, Tryd.ntmps89
      go_wp2_with (go_at_call 125; refine (eachBar_any _ chosen rfl n E xp xc ba bg gap HC.out wB _ z HB.out HW.out).mono ?_; rintro e w3 ⟨rfl, hW3⟩; have HW3 := Lib.hid hW3; clear hW3)
      go_ret
      exact ⟨by rw [hd.out, dec_true (show ∃ s, ChYes (BarP n E) n lo 0 chosen s from ⟨_, chYes_zero HST.out⟩)]; rfl, _, HW3.out, .inl ⟨chosen, rfl, chYes_zero HST.out⟩⟩
    · have hd := Lib.hid (dec_false hst)
      have HST := Lib.hid hst
      clear hst
      go_enter Tryd.func89, Tryd.ntmps89
      go_wp2_with (go_at_call 125; refine (eachBar_any _ chosen rfl n E xp xc ba bg gap HC.out wB _ z HB.out HW.out).mono ?_; rintro e w3 ⟨rfl, hW3⟩; have HW3 := Lib.hid hW3; clear hW3)
      go_ret
      exact ⟨by rw [hd.out, dec_false (ch_yes_noBa (chNo_zero HST.out))]; rfl, _, HW3.out, .inr (chNo_zero HST.out)⟩
  | succ many ih =>
    rintro lo chosen yl ym yc rfl hym rfl hc hmn hln w z hW
    obtain ⟨m, hm⟩ : ∃ m : Nat, m = many + 1 := ⟨_, rfl⟩
    obtain rfl : ym = (m : Int) := by omega
    have hm1 : m ≤ many + 1 := by omega
    have hm2 : many + 1 ≤ m := by omega
    have hm0 : ((m : Int) == 0) = false := by simp; omega
    clear hym hm
    have IH := Lib.hid ih
    have HW := Lib.hid hW
    have HC := Lib.hid hc
    clear hW hc ih
    go_enter Tryd.func89, Tryd.ntmps89
    go_wp2
    go_loopw [11] (fun i wr => ∃ (v : Nat) (z' : Int), lo ≤ v ∧ v ≤ n ∧ i = .int .i64 v ∧ ChTo (BarP n E) n lo (many + 1) chosen v ∧ BaW wB ba bg z' wr) (fun i _ => n - (intOf i).toNat)
    case atStart => exact ⟨lo, z, Nat.le_refl _, hln, rfl, chTo_start _ _ _ _ _, HW.out⟩
    case round =>
      clear HW
      obtain ⟨v, z1, hlo, hvn, rfl, hto, hW⟩ := hrel
      have HTO := Lib.hid hto
      have HW := Lib.hid hW
      clear hto hW
      have hwr : wrap64 ((v : Int) + (m : Int)) = (v : Int) + (m : Int) := by unfold wrap64; omega
      have hwr1 : wrap64 ((v : Int) + 1) = (v : Int) + 1 := by unfold wrap64; omega
      by_cases hle : v + (many + 1) ≤ n
      · have hli : (v : Int) + (m : Int) ≤ (n : Int) := by omega
        have hc2 := or_oneBa HC.out (show v < n by omega)
        have hor := Lib.hid (u32_or_nat chosen (2 ^ v) (by have := (cand_bits (by omega) HC.out).2; omega) (pow_lt32 v (by omega)))
        obtain ⟨t, ht⟩ : ∃ t, t = chosen ||| 2 ^ v := ⟨_, rfl⟩
        have HT := Lib.hid ht
        rw [← ht] at hc2
        have HC2 := Lib.hid hc2
        clear ht hc2
        by_cases hyes : ∃ s, ChYes (BarP n E) n (v + 1) many t s
        · have hd := Lib.hid (dec_true hyes)
          have HY := Lib.hid hyes
          clear hyes
          go_wp2_with (first
            | (go_at_call 89; refine (IH.out (v + 1) t _ _ _ (by omega) (by omega) (by rw [HT.out]; exact hor.out) HC2.out (by omega) (by omega) _ z1 HW.out).mono ?_; rintro e w3 ⟨he3, z3, hW3, hr3⟩; rw [hd.out] at he3; subst he3; have HW3 := Lib.hid hW3; have HR3 := Lib.hid hr3; clear hW3 hr3)
            | (go_at_call 70; refine (one_any _ v rfl (by omega) _).mono ?_; rintro e w2 ⟨rfl, rfl⟩))
          go_ret
          rcases HR3.out with ⟨s, hz, hy⟩ | hno
          · have hY := chYes_step HTO.out hlo (by omega) (HT.out ▸ hy)
            exact ⟨by rw [dec_true (show ∃ s, ChYes (BarP n E) n lo (many + 1) chosen s from ⟨s, hY⟩)]; rfl, z3, HW3.out, .inl ⟨s, hz, hY⟩⟩
          · exact absurd HY.out (ch_yes_noBa hno)
        · have hd := Lib.hid (dec_false hyes)
          have HY := Lib.hid hyes
          clear hyes
          go_wp2_with (first
            | (go_at_call 89; refine (IH.out (v + 1) t _ _ _ (by omega) (by omega) (by rw [HT.out]; exact hor.out) HC2.out (by omega) (by omega) _ z1 HW.out).mono ?_; rintro e w3 ⟨he3, z3, hW3, hr3⟩; rw [hd.out] at he3; subst he3; have HW3 := Lib.hid hW3; have HR3 := Lib.hid hr3; clear hW3 hr3)
            | (go_at_call 70; refine (one_any _ v rfl (by omega) _).mono ?_; rintro e w2 ⟨rfl, rfl⟩))
          go_roundw
          case rel =>
            rcases HR3.out with ⟨s, hz, hy⟩ | hno
            · exact absurd ⟨s, hy⟩ HY.out
            · exact ⟨v + 1, z3, by omega, by omega, by go_num, chTo_step HTO.out (HT.out ▸ hno), HW3.out⟩
          case measure => simp [intOf]; omega
      · have hli : ¬ (v : Int) + (m : Int) ≤ (n : Int) := by omega
        have hN := chNo_end HTO.out (show n < v + (many + 1) by omega)
        have HN := Lib.hid hN
        clear hN
        go_wp2
        go_ret
        exact ⟨by rw [dec_false (ch_yes_noBa HN.out)]; rfl, z1, HW.out, .inr HN.out⟩

set_option maxRecDepth 100000 in
set_option maxHeartbeats 2000000 in
theorem smallestSet_anyBa (n : Nat) (E : Nat → Nat → Bool) (xp : Option Addr) (xc ba bg : Nat) (gap : Int) (w : World) (hB : BaBase w n E xp xc ba bg gap) :
    Calls Tryd.prog 57 #[.int .i64 n, .func (.func 58) #[] #[.pointer (some ⟨ba, 0, none⟩), .pointer (some ⟨bg, 0, none⟩)]] w fun e w' => ∃ z : Int, e = .returned (.tuple #[.int .u32 z, .bool (dec (∃ t, t < 2 ^ n ∧ BarP n E t))]) ∧
      ((∃ s : Nat, z = s ∧ LeastP (BarP n E) n s) ∨ ∀ t, t < 2 ^ n → ¬ BarP n E t) ∧ ((∀ t, t < 2 ^ n → ¬ BarP n E t) → z = 0) ∧ Below w.heap.size w w' := by
  have HB := Lib.hid hB
  have h16 := hB.h16
  have HW0 : Hid (BaW w ba bg 0 ((w.alloc (.cells #[.func (.func 58) #[] #[.pointer (some ⟨ba, 0, none⟩), .pointer (some ⟨bg, 0, none⟩)]] 77)).alloc (.cells #[.int .u32 0] 71))) := Lib.hid
    { bel := below_alloc2 w _ _
      fit := (Box.new w _ _).alloc _
      fnd := by
        have := Box.new (w.alloc (.cells #[.func (.func 58) #[] #[.pointer (some ⟨ba, 0, none⟩), .pointer (some ⟨bg, 0, none⟩)]] 77)) (.int .u32 0) 71
        rwa [size_alloc] at this }
  clear hB
  go_enter Tryd.func57, Tryd.ntmps57
  go_wp2
  go_loopw [7] (fun i wr => ∃ (m : Nat) (z' : Int), m ≤ n + 1 ∧ i = .int .i64 m ∧ (∀ m', m' < m → ChNo (BarP n E) n 0 m' 0) ∧ BaW w ba bg z' wr) (fun i _ => n + 1 - (intOf i).toNat)
  case atStart => exact ⟨0, 0, Nat.zero_le _, rfl, fun m' h => by omega, HW0.out⟩
  case round =>
    clear HW0
    obtain ⟨m, z1, hm, rfl, hno, hW⟩ := hrel
    have HNO := Lib.hid hno
    have HW := Lib.hid hW
    clear hno hW
    by_cases hle : m ≤ n
    · have hli : (m : Int) ≤ (n : Int) := by omega
      by_cases hyes : ∃ s, ChYes (BarP n E) n 0 m 0 s
      · have hd := Lib.hid (dec_true hyes)
        have HY := Lib.hid hyes
        clear hyes
        go_wp2_with (go_at_call 89; refine (chooseSets_anyBa n E xp xc ba bg gap w HB.out m 0 0 _ _ _ rfl rfl rfl (Nat.two_pow_pos _) hle (Nat.zero_le _) _ z1 HW.out).mono ?_; rintro e w3 ⟨he3, z3, hW3, hr3⟩; rw [hd.out] at he3; subst he3; have c3 := hW3.fnd.cell; have HW3 := Lib.hid hW3; have HR3 := Lib.hid hr3; clear hW3 hr3)
        go_ret2
        rcases HR3.out with ⟨s, hz, hy⟩ | hno
        · have hL := least_ch (by omega) HNO.out hy
          exact ⟨z3, by rw [dec_true (show ∃ t, t < 2 ^ n ∧ BarP n E t from ⟨s, hL.1, hL.2.1⟩)]; rfl, .inl ⟨s, hz, hL⟩, fun h => absurd hL.2.1 (h s hL.1), HW3.out.bel⟩
        · exact absurd HY.out (ch_yes_noBa hno)
      · have hd := Lib.hid (dec_false hyes)
        have HY := Lib.hid hyes
        clear hyes
        go_wp2_with (go_at_call 89; refine (chooseSets_anyBa n E xp xc ba bg gap w HB.out m 0 0 _ _ _ rfl rfl rfl (Nat.two_pow_pos _) hle (Nat.zero_le _) _ z1 HW.out).mono ?_; rintro e w3 ⟨he3, z3, hW3, hr3⟩; rw [hd.out] at he3; subst he3; have HW3 := Lib.hid hW3; have HR3 := Lib.hid hr3; clear hW3 hr3)
        go_roundw
        case rel =>
          rcases HR3.out with ⟨s, hz, hy⟩ | hno
          · exact absurd ⟨s, hy⟩ HY.out
          · refine ⟨m + 1, z3, by omega, by go_num, fun m' h => ?_, HW3.out⟩
            by_cases e : m' < m
            · exact HNO.out m' e
            · obtain rfl : m' = m := by omega
              exact hno
        case measure => simp [intOf]; omega
    · obtain rfl : m = n + 1 := by omega
      have hN := none_ch (by omega) HNO.out
      have HN := Lib.hid hN
      clear hN
      go_wp2
      go_ret2
      exact ⟨0, by rw [dec_false (show ¬ ∃ t, t < 2 ^ n ∧ BarP n E t from fun ⟨t, h1, h2⟩ => HN.out t h1 h2)]; rfl, .inr HN.out, fun _ => rfl, HW.out.bel⟩


end Go.Proofs.YtiooindlpinjhaaDoor

/- A region that draws its order, some of whose stores hit the cells that it loads: facts on the world, each of which holds until a named operation of the region has come up. -/
namespace Go.Proofs.YtiooindlpinjhaaDoor
open Go.RowKit

section
variable {P : Program} {ops : Array Oper} {Q : Exit → Act → World → Prop} {md : Region.Mode}

/-- Facts, each till the operation beside it has come up. -/
def Stg : List (Nat × (World → Prop)) → Array Bool → World → Prop
  | [], _, _ => True
  | f :: fs, l, w => (l.getD f.1 true = false → f.2 w) ∧ Stg fs l w
theorem Stg.nil {l : Array Bool} {w : World} : Stg [] l w := trivial
theorem Stg.keep {f : Nat × (World → Prop)} {fs : List (Nat × (World → Prop))} {l : Array Bool} {w : World} (h : f.2 w) (r : Stg fs l w) : Stg (f :: fs) l w := ⟨fun _ => h, r⟩
theorem Stg.skip {f : Nat × (World → Prop)} {fs : List (Nat × (World → Prop))} {l : Array Bool} {w : World} (h : l.getD f.1 true = true) (r : Stg fs l w) : Stg (f :: fs) l w := ⟨fun k => absurd (h.symm.trans k) (by decide), r⟩
theorem Stg.get : ∀ {fs : List (Nat × (World → Prop))} {l : Array Bool} {w : World} {m s : Nat} {F : World → Prop}, fs[m]? = some (s, F) → Stg fs l w → l.getD s true = false → F w
  | [], _, _, m, _, _, e, _, _ => by simp at e
  | f :: fs, _, _, 0, _, _, e, h, k => by
    simp only [List.getElem?_cons_zero, Option.some.injEq] at e
    subst e
    exact h.1 k
  | f :: fs, _, _, m + 1, _, _, e, h, k => Stg.get (fs := fs) (m := m) (by simpa using e) h.2 k
theorem Stg.set : ∀ {fs : List (Nat × (World → Prop))} {i : Nat} {l : Array Bool} {w : World}, ((fs.map (·.1)).all fun s => s != i) = true → (Stg fs (l.setIfInBounds i true) w ↔ Stg fs l w)
  | [], _, _, _, _ => Iff.rfl
  | f :: fs, i, l, w, h => by
    simp only [List.map_cons, List.all_cons, Bool.and_eq_true, bne_iff_ne] at h
    unfold Stg
    rw [getD_set_ne true (Ne.symm h.1), Stg.set h.2]

/-- Whatever order is picked from here on; behind each operation the facts hold that are still asked. -/
def wpStg (P : Program) (md : Region.Mode) (ops : Array Oper) (Q : Exit → Act → World → Prop) (fs : List (Nat × (World → Prop))) : Nat → Array Bool → Act → World → Prop
  | 0, l, a, w => Region.ready md ops l = [] ∧ Q .normal a w
  | fuel + 1, l, a, w =>
    (Region.ready md ops l = [] → Q .normal a w) ∧
      ∀ i ∈ Region.ready md ops l, wpOp P ops Q i (fun a' w' => Stg fs (l.setIfInBounds i true) w' ∧ wpStg P md ops Q fs fuel (l.setIfInBounds i true) a' w') a w
variable {fs : List (Nat × (World → Prop))}

theorem wpStg_any : ∀ (fuel : Nat) (l : Array Bool) (a : Act) (w : World), wpStg P md ops Q fs fuel l a w → wpAny P md ops Q fuel l a w
  | 0, _, _, _, h => h
  | fuel + 1, _, _, _, h => ⟨h.1, fun i hi => wpOp_mono (fun a' w' k => wpStg_any fuel _ a' w' k.2) (h.2 i hi)⟩

theorem not_ready_after {i s : Nat} {l : Array Bool} (hb : ((ops[s]?).map fun o => o.after.any fun e => Region.binds md e && e.on == i).getD false = true) (hi : l.getD i true = false) : s ∉ Region.ready md ops l := by
  intro h
  obtain ⟨_, o, ho, hall⟩ := mem_ready.1 h
  rw [ho] at hb
  simp only [Option.map_some, Option.getD_some, Array.any_eq_true'] at hb
  obtain ⟨e, he, hb⟩ := hb
  simp only [Bool.and_eq_true, beq_iff_eq] at hb
  have h2 := hall e he hb.1
  rw [hb.2] at h2
  rcases Nat.lt_or_ge i l.size with k | k
  · simp [k] at h2 hi; rw [hi] at h2; cases h2
  · simp [Array.getElem?_eq_none k] at h2

/-- An operation that yields its value wherever what is still asked holds may be taken first. -/
theorem wpStg_first {i : Nat} {oi : Oper} {v : Value} {F : World → Prop} (G : Array Bool → Prop) (hi : ops[i]? = some oi) (hsel : ∀ (j : Nat) (o : Oper) cs b, ops[j]? = some o → o.op ≠ .select cs b)
    (hQ : ∀ c a w, Q (.panic c) (a.put oi.dst v) w → Q (.panic c) a w) (hne : ((fs.map (·.1)).all fun s => s != i) = true)
    (hGs : ∀ l j, G l → l.getD i true = false → j ∈ Region.ready md ops l → j ≠ i → G (l.setIfInBounds j true)) (hGF : ∀ l w, G l → Stg fs l w → F w) :
    ∀ (fuel : Nat) (l : Array Bool) (a : Act) (w : World),
      (∀ j oj, ops[j]? = some oj → j ≠ i → l.getD j true = false → (∀ e ∈ oj.after, Region.binds md e = true → e.on ≠ i) → oi.apart ops oj = true) →
      i ∈ Region.ready md ops l → G l → YieldsIf P ops F oi v a → Stg fs l w →
      wpStg P md ops Q fs fuel (l.setIfInBounds i true) (a.put oi.dst v) w → wpStg P md ops Q fs (fuel + 1) l a w := by
  intro fuel
  induction fuel with
  | zero =>
    intro l a w _ hr hG hy hS H
    refine ⟨fun h => absurd (h ▸ hr) (by simp), fun j hj => ?_⟩
    by_cases e : j = i
    · subst e
      exact hy.wpOp hi (hGF l w hG hS) ⟨(Stg.set hne).2 hS, H⟩
    · have := ready_mono hj e
      rw [H.1] at this
      simp at this
  | succ fuel ih =>
    intro l a w hap hr hG hy hS H
    refine ⟨fun h => absurd (h ▸ hr) (by simp), fun j hj => ?_⟩
    by_cases e : j = i
    · subst e
      exact hy.wpOp hi (hGF l w hG hS) ⟨(Stg.set hne).2 hS, H⟩
    have hil := (mem_ready.1 hr).1
    obtain ⟨hjl, oj, hoj, hall⟩ := mem_ready.1 hj
    have hno : ∀ x ∈ oj.after, Region.binds md x = true → x.on ≠ i := fun x hx hb k => by
      refine not_ready_after (md := md) (ops := ops) (i := i) (s := j) (l := l) ?_ hil hj
      rw [hoj]
      simp only [Option.map_some, Option.getD_some, Array.any_eq_true']
      exact ⟨x, hx, by simp [hb, k]⟩
    have h2 := wpOp_putIf hoj (hap j oj hoj e hjl hno) (fun cs b => hsel i oi cs b hi) (fun cs b => hsel j oj cs b hoj) hQ hy (H.2 j (ready_mono hj e))
    refine wpOp_mono (fun a' w' h3 => ?_) h2
    obtain ⟨h4, h5, h6⟩ := h3
    rw [Array.setIfInBounds_comm _ _ (Ne.symm e)] at h5 h6
    have h7 := (Stg.set hne).1 h5
    refine ⟨h7, ih _ a' w' (fun k ok hk hki hun hnk => hap k ok hk hki ?_ hnk) (ready_mono hr (Ne.symm e)) (hGs l j hG hil hj e) h4 h7 h6⟩
    by_cases k2 : j = k
    · subst k2; exact hjl
    · rwa [getD_set_ne true k2] at hun

/-- A load is taken first: the store that ends its fact waits for it. -/
theorem wpStg_take {m i s : Nat} {oi : Oper} {v : Value} {F : World → Prop} {fuel : Nat} {l : Array Bool} {a : Act} {w : World} (hm : fs[m]? = some (s, F)) (hi : ops[i]? = some oi)
    (hs : Region.noSelect ops = true) (hf : Region.free md ops l i = true) (hr : (Region.ready md ops l).contains i = true)
    (hb : ((ops[s]?).map fun o => o.after.any fun e => Region.binds md e && e.on == i).getD false = true) (hl : l.getD s true = false) (hne : ((fs.map (·.1)).all fun s => s != i) = true)
    (hQ : ∀ c a w, Q (.panic c) (a.put oi.dst v) w → Q (.panic c) a w) (hy : YieldsIf P ops F oi v a) (hS : Stg fs l w)
    (h : wpStg P md ops Q fs fuel (l.setIfInBounds i true) (a.put oi.dst v) w) : wpStg P md ops Q fs (fuel + 1) l a w :=
  wpStg_first (fun l => l.getD s true = false) hi (Region.noSelect_spec hs) hQ hne
    (fun l j h1 h2 h3 _ => by rw [getD_set_ne true (fun e => not_ready_after hb h2 (by rw [← e]; exact h3))]; exact h1) (fun l w h1 h2 => Stg.get hm h2 h1) fuel l a w (Region.free_spec hi hf) (by simpa using hr) hl hy hS h
/-- What yields in whatever world is taken first. -/
theorem wpStg_pure {i : Nat} {oi : Oper} {v : Value} {fuel : Nat} {l : Array Bool} {a : Act} {w : World} (hi : ops[i]? = some oi)
    (hs : Region.noSelect ops = true) (hf : Region.free md ops l i = true) (hr : (Region.ready md ops l).contains i = true) (hne : ((fs.map (·.1)).all fun s => s != i) = true)
    (hQ : ∀ c a w, Q (.panic c) (a.put oi.dst v) w → Q (.panic c) a w) (hy : YieldsIf P ops (fun _ => True) oi v a) (hS : Stg fs l w)
    (h : wpStg P md ops Q fs fuel (l.setIfInBounds i true) (a.put oi.dst v) w) : wpStg P md ops Q fs (fuel + 1) l a w :=
  wpStg_first (fun _ => True) hi (Region.noSelect_spec hs) hQ hne (fun _ _ _ _ _ _ => trivial) (fun _ _ _ _ => trivial) fuel l a w (Region.free_spec hi hf) (by simpa using hr) trivial hy hS h

/-- Just one operation may come up: it is carried out. -/
theorem wpStg_one {i : Nat} {oi : Oper} {fuel : Nat} {l : Array Bool} {a : Act} {w : World} (hr : Region.ready md ops l = [i]) (hi : ops[i]? = some oi)
    (h : ∀ K' : Act → World → Prop, Shut (∀ a w, Stg fs (l.setIfInBounds i true) w → (Stg fs (l.setIfInBounds i true) w → wpStg P md ops Q fs fuel (l.setIfInBounds i true) a w) → K' a w) →
      if Region.wanted oi (yielded ops a.tmps) = true then Oper.wp P oi a w K' Q else K' (a.put oi.dst undef) w) : wpStg P md ops Q fs (fuel + 1) l a w := by
  refine ⟨fun h0 => ?_, fun j hj => ?_⟩
  · rw [hr] at h0; cases h0
  · rw [hr] at hj
    obtain rfl : j = i := by simpa using hj
    exact wpOp_step hi (fun K' hK => h K' (fun a w hS hW => hK a w ⟨hS, hW hS⟩))
theorem wpStg_done {l : Array Bool} {a : Act} {w : World} (hr : Region.ready md ops l = []) (h : Q .normal a w) : ∀ fuel, wpStg P md ops Q fs fuel l a w
  | 0 => ⟨hr, h⟩
  | _ + 1 => ⟨fun _ => h, by rw [hr]; simp⟩
theorem wp_region_stg {id : Nat} {a : Act} {w : World} (fs : List (Nat × (World → Prop))) (hm : P.follows .mixedOrders = true) (hS : Stg fs (Array.replicate ops.size false) w.drew)
    (h : Stg fs (Array.replicate ops.size false) w.drew → wpStg P .any ops Q fs ops.size (Array.replicate ops.size false) a w.drew) : (Code.region id ops true).wp P Q a w :=
  wp_region_any hm (wpStg_any _ _ _ _ (h hS))
end

/-- append as one operation of such a region; where the new row lies. -/
theorem step_app1f {P : Program} {T E : TypeId} {z : Value} {bytes : Nat} (S : SlTy P T E z 1 bytes) {w : World} {ops : Array Oper} {o : Oper} {a : Act} {K : Act → World → Prop} {Q : Exit → Act → World → Prop} {F : Prop}
    (hgd : o.guard = none) {s x : Operand} (ho : o.op = .call { callee := .builtin .append, args := #[s, x], argTypes := #[T, T] })
    {base : Nat} {v : Value} {n : Nat} {xs : List Value} {el : Value} (hs : a.eval s = v) (hown : w.ownsRow base E 1 v n xs)
    (hx : a.eval x = .slice (some ⟨w.heap.size, 0, none⟩) 1 1) (h1 : el.oneCell' = true)
    (hnm : n < 1000000000) (hbase : base ≤ w.heap.size)
    (h : ∀ b c w', w'.ownsRow base E 1 (.slice (some ⟨b, 0, none⟩) (n + 1) c) (n + 1) (xs ++ [el]) → w.grownBy w' v.ownBlock → (v.ownBlock = some b ∨ w.heap.size < b) → K (a.put o.dst (.slice (some ⟨b, 0, none⟩) (n + 1) c)) w') :
    if Region.wanted o (yielded ops a.tmps) = true then Oper.wp P o a (w.alloc (.cells #[el] E)) K Q else F := by
  have hw : Region.wanted o (yielded ops a.tmps) = true := by simp [Region.wanted, hgd]
  rw [if_pos hw]
  have hal := size_alloc w (.cells #[el] E)
  have hu : Sl (w.alloc (.cells #[el] E)) E (.slice (some ⟨w.heap.size, 0, none⟩) 1 1) 1 [el] := by
    refine ⟨_, 1, rfl, (fun e => by cases e), Nat.le_refl _, by omega, Or.inr ⟨w.heap.size, 0, #[el], (0, 0), rfl, heap_alloc_new w _, fun j u hu => ?_⟩⟩
    cases j with
    | zero => simpa using hu
    | succ j => simp at hu
  obtain ⟨v', w', hr, h2, h3, h4⟩ := run_app S (w.alloc (.cells #[el] E)) o.type base v n xs (hown.alloc _) _ 1 [el] hu (by simp) (by simpa using h1) (by omega) (by omega)
  unfold Oper.wp execOp
  simp only [ho, resolve, invoke, builtin, Sem.run_bind, Sem.run_pure, Result.andThen_ok, List.map_toArray, List.map_cons, List.map_nil, hs, hx, hr]
  rcases id h2.2 with ⟨_, h0⟩ | ⟨g, cap, cur, rfl, _⟩
  · omega
  · refine h g cap w' h2 ⟨h3.os, h3.tape, h3.output, by have := h3.size; omega, fun k hk hne => (h3.block k (by omega) hne).trans (Below.heap_alloc w _ k hk)⟩ ?_
    rcases h4 g rfl with h5 | h5
    · exact .inl h5
    · exact .inr (by omega)

end Go.Proofs.YtiooindlpinjhaaDoor
