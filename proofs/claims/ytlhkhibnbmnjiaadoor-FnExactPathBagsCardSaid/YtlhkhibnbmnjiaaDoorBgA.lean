/- Walks: the program's path bags. -/
import Derived.Test.YtlhkhibnbmnjiaaDoorBgP
import Derived.Test.YtlhkhibnbmnjiaaDoorRchB
import Derived.Test.YtlhkhibnbmnjiaaDoorResults
import Derived.Test.YtlhkhibnbmnjiaaDoorRen
import Derived.Deep.RegionHeld3
import Derived.Deep.DeepCutAuto
namespace Go.Proofs.YtlhkhibnbmnjiaaDoor
open Go.RowKit

theorem natInts_toNatB {l : List Int} (h : ∀ x ∈ l, 0 ≤ x) : natInts (l.map Int.toNat) = l := by
  unfold natInts
  rw [List.map_map]
  conv => rhs; rw [← List.map_id l]
  refine List.map_congr_left fun x hx => ?_
  have := h x hx
  simp only [Function.comp, id]
  omega
theorem sub_ne {n : Nat} (hn : n ≤ 16) {E : Nat → Nat → Bool} {u a s : Nat} {pre : List Nat} (ha : a < 65536) (hs : s < 65536) (hbit : ∀ j, a.testBit j = (decide (j < n) && E u j)) (hpre : ∀ i, s.testBit i = true ↔ i ∈ pre) (hu : u ∈ pre) : sub a s ≠ 0 ↔ openB n E pre u = true := by
  rw [openB_iff]
  constructor
  · intro h
    have : ∃ i, (sub a s).testBit i = true := Classical.byContradiction fun hn => h (Nat.eq_of_testBit_eq fun i => by
      rw [Nat.zero_testBit]
      exact Bool.eq_false_iff.2 fun h2 => hn ⟨i, h2⟩)
    obtain ⟨i, hi⟩ := this
    rw [testBit_sub a s (by omega) (by omega), hbit] at hi
    simp only [Bool.and_eq_true, Bool.not_eq_true', decide_eq_true_eq] at hi
    exact ⟨hu, i, hi.1.1, hi.1.2, fun h2 => by rw [(hpre i).2 h2] at hi; exact absurd hi.2 (by decide)⟩
  · rintro ⟨_, y, h1, h2, h3⟩ h0
    have : (sub a s).testBit y = true := by
      rw [testBit_sub a s (by omega) (by omega), hbit]
      have : s.testBit y = false := Bool.eq_false_iff.2 fun h4 => h3 ((hpre y).1 h4)
      simp [h1, h2, this]
    rw [h0, Nat.zero_testBit] at this
    exact absurd this (by decide)

set_option maxRecDepth 100000 in
set_option maxHeartbeats 4000000 in
theorem openOf_any (x : Value) (z : Int) (n : Nat) (E : Nat → Nat → Bool) (s : Nat) (pre : List Nat) (hz : z = s) (hs : s < 65536) (hpre : ∀ i, s.testBit i = true ↔ i ∈ pre) (hpn : ∀ i ∈ pre, i < n) (w : World) (hx : NE w x n E) (hT : Tab w) :
    Calls Tryd.prog 40 #[x, .int .u32 z] w fun e w' => ∃ m : Nat, e = .returned (.int .u32 (m : Int)) ∧ m < 65536 ∧ (∀ i, m.testBit i = true ↔ i ∈ opensP n E pre) ∧ Below w.heap.size w w' := by
  subst hz
  obtain ⟨xp, xc, rfl⟩ : ∃ p c, x = .slice p n c := by obtain ⟨p, c, e, _⟩ := hx.sl; exact ⟨p, c, e⟩
  have hle := hx.le
  have HX := Lib.hid hx
  have HP := Lib.hid hpre
  have HPN := Lib.hid hpn
  have hlen := bitsOf_length s
  clear hx hpre hpn
  go_enter Tryd.func40, Tryd.ntmps40
  go_wp2_with (go_at_call 51; refine (list_any _ s rfl (by omega) _ hT).mono ?_; rintro e w3 ⟨lv, rfl, hown3, hb3⟩; have hnl := Nums.of_owns hown3 (natInts_length _).symm (by omega); obtain ⟨lp, lc, rfl, _, _, _, hat⟩ := hnl.shape; rw [natInts_length])
  have HB3 := Lib.hid hb3
  have HAT := Lib.hid hat
  clear hb3 hown3 hnl hat
  go_loopw [5, 11] (fun s5 i wx => ∃ (t m : Nat), t ≤ (bitsOf s).length ∧ i = .int .i64 t ∧ s5 = .int .u32 (m : Int) ∧ m < 65536 ∧ (∀ i, m.testBit i = true ↔ i ∈ (bitsOf s).take t ∧ openB n E pre i = true) ∧ Below w3.heap.size w3 wx) (fun _ i _ => (bitsOf s).length - (intOf i).toNat)
  case atStart => exact ⟨0, 0, Nat.zero_le _, rfl, rfl, by decide, fun i => by simp, Below.refl _ _⟩
  case round =>
    obtain ⟨t, m, ht, rfl, rfl, hm, hmem, hbx⟩ := hrel
    have HMEM := Lib.hid hmem
    have HBx := Lib.hid hbx
    clear hmem hbx
    by_cases hlt : t < (bitsOf s).length
    · obtain ⟨u, hu⟩ : ∃ u : Nat, u = (bitsOf s)[t] := ⟨_, rfl⟩
      have hub : s.testBit u = true := (mem_left hs).1 (hu ▸ List.getElem_mem hlt)
      have hup := (HP.out u).1 hub
      have hun := HPN.out u hup
      have hjl : t < (natInts (bitsOf s)).length := by rw [natInts_length]; exact hlt
      obtain ⟨lb, lo, rfl, hcl⟩ := (HAT.out.below HBx.out).num hjl
      have hval : (natInts (bitsOf s))[t] = (u : Int) := by rw [hu]; simp [natInts]
      rw [hval] at hcl
      obtain ⟨ab, ao, av, rfl, hca, ha16, hbit⟩ := (HX.out.next (HB3.out.trans (HBx.out.mono HB3.out.size))).get hun
      have hand : bits BinOp.andNot IntKind.u32 (av : Int) (s : Int) = ((sub av s : Nat) : Int) := u32_andNot_nat av s (by omega) (by omega)
      have hne := sub_ne hle ha16 hs hbit HP.out hup
      have htk : Hid (∀ i, i ∈ (bitsOf s).take (t + 1) ↔ i ∈ (bitsOf s).take t ∨ i = u) := Lib.hid fun i => by rw [take_snoc _ t hlt, ← hu, List.mem_append, List.mem_singleton]
      have hu16 : u < 16 := by omega
      have e0 : (0 : Int) ≤ (u : Int) := by omega
      have e1 : (u : Int) < (n : Int) := by omega
      have h2v : 2 ^ u < 65536 := pow_lt16 u hu16
      have hb2 : Hid (∀ i, (2 ^ u : Nat).testBit i = true ↔ u = i) := Lib.hid fun i => by rw [testBit_pow]; simp
      have c1 := Lib.hid (fun w => one_any (u : Int) u rfl (by omega) w)
      clear hval hu hub hup hbit ha16
      generalize hpv : 2 ^ u = pv at h2v hb2 c1
      have hor := or_u32 m pv hm h2v
      have hn216 := or_lt16 m pv hm h2v
      have HQ : Hid (∀ j, (m ||| pv).testBit j = true ↔ m.testBit j = true ∨ u = j) := Lib.hid fun j => by
        rw [Nat.testBit_or]
        simp only [Bool.or_eq_true, hb2.out]
      clear hpv
      generalize hn2 : m ||| pv = n2 at hor hn216 HQ
      generalize hq : sub av s = q at hand hne
      clear hn2 hq
      have HNE := Lib.hid hne
      clear hne
      by_cases hq0 : q = 0
      · have hq1 : ((q : Int) != 0) = false := by simp [hq0]
        have HQ0 := Lib.hid hq0
        clear hq0
        go_wp2
        go_roundw
        case rel =>
          refine ⟨t + 1, m, by omega, by go_num, rfl, hm, fun i => ?_, HBx.out⟩
          rw [HMEM.out, htk.out]
          refine ⟨fun ⟨a, b⟩ => ⟨.inl a, b⟩, fun ⟨a, b⟩ => ⟨a.elim id fun e => ?_, b⟩⟩
          subst e
          exact absurd HQ0.out (HNE.out.2 b)
        case measure => simp [intOf]; omega
      · have hq1 : ((q : Int) != 0) = true := by simp; omega
        have HQ0 := Lib.hid hq0
        clear hq0
        go_wp2_with (go_at_call 41; refine (c1.out _).mono ?_; rintro e w2 ⟨rfl, rfl⟩)
        go_roundw
        case rel =>
          refine ⟨t + 1, n2, by omega, by go_num, rfl, hn216, fun i => ?_, HBx.out⟩
          rw [HQ.out, HMEM.out, htk.out]
          constructor
          · rintro (⟨a, b⟩ | rfl)
            · exact ⟨.inl a, b⟩
            · exact ⟨.inr rfl, HNE.out.1 HQ0.out⟩
          · rintro ⟨a | rfl, b⟩
            · exact .inl ⟨a, b⟩
            · exact .inr rfl
        case measure => simp [intOf]; omega
    · obtain rfl : t = (bitsOf s).length := by omega
      go_wp2
      go_ret
      refine ⟨m, rfl, hm, fun i => ?_, HB3.out.trans (HBx.out.mono HB3.out.size)⟩
      rw [HMEM.out, List.take_length, mem_left hs, mem_opensP, HP.out]
      refine ⟨fun ⟨a, b⟩ => ⟨HPN.out i a, b⟩, fun ⟨a, b⟩ => ⟨(openB_iff.1 b).1, b⟩⟩

theorem bag_mask {n : Nat} (hn : n ≤ 16) {E : Nat → Nat → Bool} {l : List Nat} {t m v : Nat} (ht : t < l.length) (hv : l[t] = v) (hvn : v < n) (hm : ∀ i, m.testBit i = true ↔ i ∈ opensP n E (l.take t)) : m ||| 2 ^ v = mask (natInts (bagP n E l t)) := by
  refine Nat.eq_of_testBit_eq fun i => ?_
  rw [Bool.eq_iff_iff, Nat.testBit_or, mask_bit, decide_eq_true_eq, mem_bagP, Bool.or_eq_true, hm, mem_opensP, testBit_pow]
  have e : l[t]? = some v := by rw [List.getElem?_eq_getElem ht, hv]
  rw [e]
  simp only [Option.some.injEq, decide_eq_true_eq]
  constructor
  · rintro (⟨a, b⟩ | rfl)
    · exact ⟨a, .inr b⟩
    · exact ⟨hvn, .inl rfl⟩
  · rintro ⟨a, rfl | b⟩
    · exact .inr rfl
    · exact .inl ⟨a, b⟩

structure PbI (w wr : World) (ov : Value) (n : Nat) (E : Nat → Nat → Bool) (l : List Nat) (t s : Nat) : Prop where
  s16 : s < 65536
  bit : ∀ i, s.testBit i = true ↔ i ∈ l.take t
  own : wr.ownsRow w.heap.size 59 1 ov t ((mskL (bagsP n E l t)).map u32v)
  bel : Below w.heap.size w wr
  tab : Tab wr
  tpos : 0 < w.heap.size

set_option maxRecDepth 100000 in
set_option maxHeartbeats 4000000 in
theorem pathBags_any (x lv : Value) (n : Nat) (E : Nat → Nat → Bool) (l : List Nat) (hl : l.length ≤ 16) (hln : ∀ v ∈ l, v < n) (w : World) (hx : NE w x n E) (hn : Nums w 3 .i64 lv (natInts l)) (hT : Tab w) :
    Calls Tryd.prog 23 #[x, lv] w fun e w' => ∃ u, e = .returned u ∧ w'.ownsRow w.heap.size 59 1 u l.length ((mskL (bagsP n E l l.length)).map u32v) ∧ Tab w' ∧ Below w.heap.size w w' := by
  obtain ⟨xp, xc, rfl⟩ : ∃ p c, x = .slice p n c := by obtain ⟨p, c, e, _⟩ := hx.sl; exact ⟨p, c, e⟩
  obtain ⟨lp, lc, rfl, _⟩ := id hn.shape
  have hle := hx.le
  have hbA := below_alloc w (.cells #[] 59)
  have START := Lib.hid (show PbI w (w.alloc (.cells #[] 59)) (.slice (some ⟨w.heap.size, 0, none⟩) 0 0) n E l 0 0 from
    { s16 := by decide, bit := fun i => by simp, own := ownsRow_empty _ _ _, bel := hbA, tab := hT.keep hbA, tpos := hT.pos })
  have HX := Lib.hid hx
  have HN := Lib.hid hn
  have HLN := Lib.hid hln
  clear hbA hx hn hT hln
  go_enter Tryd.func23, Tryd.ntmps23
  go_wp2
  go_loopw [5, 6, 12] (fun s5 s6 i wr => ∃ (t s : Nat), t ≤ l.length ∧ i = .int .i64 t ∧ s6 = .int .u32 (s : Int) ∧ PbI w wr s5 n E l t s) (fun _ _ i _ => l.length - (intOf i).toNat)
  case atStart => exact ⟨0, 0, Nat.zero_le _, rfl, rfl, START.out⟩
  case round =>
    clear START
    obtain ⟨t, s, ht, rfl, rfl, hI⟩ := hrel
    obtain ⟨op, oc, rfl⟩ : ∃ p c, u5 = .slice p t c := by
      rcases hI.own.2 with ⟨h1, h2⟩ | ⟨g1, cap, cur, h1, _⟩
      · exact ⟨none, 0, by rw [h1, h2]⟩
      · exact ⟨_, _, h1⟩
    have HI := Lib.hid hI
    have HN1 := HN.out.below hI.bel
    have hs16 := hI.s16
    have htab := hI.tab
    have hbel := hI.bel
    have hsz := hbel.size
    have hown := hI.own
    clear hI
    simp only [natInts_length] at *
    by_cases hlt : t < l.length
    · obtain ⟨lb, lo, rfl, hlc⟩ := HN1.get (k := t) (by rw [natInts_length]; exact hlt)
      have hval : (natInts l)[t]'(by rw [natInts_length]; exact hlt) = ((l[t] : Nat) : Int) := by simp [natInts]
      rw [hval] at hlc
      have hvn := HLN.out _ (List.getElem_mem hlt)
      have HLT := Lib.hid hlt
      clear hval HN1
      generalize hv : l[t]'hlt = v at hlc hvn
      have HV := Lib.hid hv
      have h2v : 2 ^ v < 65536 := pow_lt16 v (by omega)
      have c1 := Lib.hid (fun w => one_any (v : Int) v rfl (by omega) w)
      have HPN : Hid (∀ i ∈ l.take t, i < n) := Lib.hid fun i hi => HLN.out i (List.mem_of_mem_take hi)
      have HBM : Hid (∀ m : Nat, (∀ i, m.testBit i = true ↔ i ∈ opensP n E (l.take t)) → m ||| 2 ^ v = mask (natInts (bagP n E l t))) := Lib.hid fun m hm => bag_mask hle HLT.out HV.out hvn hm
      have HS2 : Hid (∀ i, (s ||| 2 ^ v).testBit i = true ↔ i ∈ l.take (t + 1)) := Lib.hid fun i => by
        rw [Nat.testBit_or, testBit_pow, Bool.or_eq_true, HI.out.bit, take_snoc _ t HLT.out, HV.out]
        simp only [decide_eq_true_eq, List.mem_append, List.mem_singleton]
        exact or_congr Iff.rfl ⟨fun h => h.symm, fun h => h.symm⟩
      clear hv
      generalize hpv : 2 ^ v = pv at h2v c1 HBM HS2
      have hor := or_u32 s pv hs16 h2v
      have hs2 := or_lt16 s pv hs16 h2v
      clear hpv
      generalize hn2 : s ||| pv = s2 at hor hs2 HS2
      clear hn2
      go_wp2_with (first
        | (at_builtin; refine wpList_app1 ty_vsets rfl rfl rfl ho4 rfl rfl (by omega) (by have := hb4.size; omega) ?_; intro v' w5 hown' hg _)
        | (go_at_call 40; refine (openOf_any _ _ n E s (l.take t) rfl hs16 HI.out.bit HPN.out _ (HX.out.next hbel) htab).mono ?_; rintro e w4 ⟨m, rfl, hm16, hmb, hb4⟩; have ho4 := ownsRow_below hown hb4; have HM := Lib.hid hmb; have hom := or_u32 m pv hm16 h2v; have hom16 := or_lt16 m pv hm16 h2v; have hbm := HBM.out m hmb; clear hmb)
        | (go_at_call 41; refine (c1.out _).mono ?_; rintro e w2 ⟨rfl, rfl⟩))
      go_roundw
      case rel =>
        refine ⟨t + 1, s2, by omega, by go_num, rfl, ?_⟩
        exact { s16 := hs2
                bit := HS2.out
                own := by rw [bagsP_succ, mskL_snoc, List.map_append]; exact hown'
                bel := below_grown (hbel.trans (hb4.mono hsz)) ho4 hg (Nat.le_refl _) (by have := hb4.size; omega)
                tab := (htab.keep hb4).grownP hg (fun e => by
                  have := (ho4.lt _ e.symm).1
                  have := HI.out.tpos
                  omega)
                tpos := HI.out.tpos }
      case measure => simp [intOf]; omega
    · obtain rfl : t = l.length := by omega
      go_wp2
      go_ret
      exact ⟨_, rfl, hown, htab, hbel⟩

theorem rowsOf_bags {n : Nat} (hn : n ≤ 16) {ps : List (List Nat)} (h : ∀ l ∈ ps, l.Pairwise (· < ·) ∧ ∀ i ∈ l, i < n) : rowsOf (mskL ps) = ps.map natInts := by
  unfold rowsOf mskL
  rw [List.map_map]
  refine List.map_congr_left fun l hl => ?_
  show natInts (bitsOf (mask (natInts l))) = natInts l
  congr 1
  refine rising_ext _ _ (bitsOf_rising _) (h l hl).1 fun i => ?_
  rw [mem_left (mask_nat_lt16 fun i hi => by have := (h l hl).2 i hi; omega), mask_bit, decide_eq_true_eq]
theorem bags_row {n : Nat} (hn : n ≤ 16) (E : Nat → Nat → Bool) (l : List Nat) (k j : Nat) : (row ((bagsP n E l k).map natInts) j).length ≤ 32 := by
  by_cases hj : j < (bagsP n E l k).length
  · have e : row ((bagsP n E l k).map natInts) j = natInts (bagsP n E l k)[j] := by simp [row, hj]
    rw [e, natInts_length]
    have := (mem_bagsP (List.getElem_mem hj)).2.1
    omega
  · simp [row, show (bagsP n E l k).length ≤ j by omega]

set_option maxRecDepth 100000 in
set_option maxHeartbeats 2000000 in
theorem implPathBags_any (v lv : Value) (g : List (List Int)) (l : List Int) (w : World) (hg : Gr w v g) (hn : Nums w 2 .i64 lv l) (hT : Tab w) :
    Calls Tryd.prog 8 #[v, lv] w fun e w' => ∃ (u : Value) (gg : List (List Int)), e = .returned u ∧ PbS g l gg ∧ DG w' w.heap.size (.agg #[u]) gg ∧ gg.length ≤ 16 ∧ (∀ j, (row gg j).length ≤ 32) ∧ Below w.heap.size w w' := by
  have hg0 := hg
  obtain ⟨u, rfl, hr⟩ := hg
  obtain ⟨p, c, rfl, _⟩ := hr.shape
  have hbA := Lib.hid (below_alloc w (.cells #[.slice p g.length c] 28))
  have BX := Lib.hid (Box.new w (.slice p g.length c) 28)
  have HG := Lib.hid (hg0.below hbA.out)
  have HN := Lib.hid (hn.below hbA.out)
  have HT := Lib.hid (hT.keep hbA.out)
  have h0 := hbA.out.size
  clear hr hg0 hn hT
  by_cases hok : GOk g ∧ OrdOk g.length l
  case neg =>
    have hd := dec_false hok
    have Hok := Lib.hid hok
    clear hok
    have hbx0 := BX.out.cell
    go_enter Tryd.func8, Tryd.ntmps8
    go_wp2_with (go_at_call 21; refine (implOrderOk_any _ _ g l _ HG.out HN.out).mono ?_; rintro e w2 ⟨rfl, hb2⟩)
    go_ret
    exact ⟨_, [], rfl, .inr ⟨rfl, Hok.out⟩, ⟨_, [], rfl, rfl, World.ownsRow_nil _ _ _ _, ⟨fun j hj => by simp at hj, fun i j hi => by simp at hi⟩⟩, by simp, fun j => by simp [row], hbA.out.trans (hb2.mono hbA.out.size)⟩
  have hd := dec_true hok
  have hle := hok.1.le
  have hll16 : l.length ≤ 16 := by have := hok.2.1; omega
  have Hok := Lib.hid hok
  obtain ⟨ln, hln⟩ : ∃ ln, ln = l.map Int.toNat := ⟨_, rfl⟩
  have hlN : natInts ln = l := by rw [hln]; exact natInts_toNatB fun x hx => (hok.2.2.1 x hx).1
  have hlnl := Lib.hid (show ln.length = l.length by rw [hln, List.length_map])
  have hln16 : ln.length ≤ 16 := by have := hlnl.out; omega
  have hlt : ∀ v ∈ ln, v < g.length := fun v hv => by
    rw [hln] at hv
    obtain ⟨x, hx, rfl⟩ := List.mem_map.1 hv
    have := hok.2.2.1 x hx
    omega
  have HLN := Lib.hid hlN
  have HLT := Lib.hid hlt
  have hlnE := Lib.hid hln
  have hbx0 := BX.out.cell
  have HMS : Hid (∀ b ∈ bagsP g.length (ofG g) ln ln.length, b.Pairwise (· < ·) ∧ ∀ i ∈ b, i < g.length) := Lib.hid fun b hb => ⟨(mem_bagsP hb).1, (mem_bagsP hb).2.2⟩
  clear hok hln hlN hlt
  go_enter Tryd.func8, Tryd.ntmps8
  go_wp2_with (first
    | (go_at_call 21; refine (implOrderOk_any _ _ g l _ HG.out HN.out).mono ?_; rintro e w2 ⟨rfl, hb2⟩; have hbx := (BX.out.keep hb2).cell)
    | (go_at_call 24; refine (netsOf_any _ g _ (HG.out.below hb2) Hok.out.1).mono ?_; rintro e w3 ⟨x, rfl, hown3, hb3⟩; have HX3 : Hid (NE w3 x g.length (ofG g)) := Lib.hid ⟨hle, by rw [indN_ofG Hok.out.1]; exact Sl.of_owns hown3 (by omega)⟩; clear hown3)
    | (go_at_call 25; refine (narrow_any _ l _ ((HN.out.below hb2).below hb3)).mono ?_; rintro e w4 ⟨nv, rfl, hown4, hb4⟩; have HN4 : Hid (Nums w4 3 .i64 nv (natInts ln)) := Lib.hid (by rw [HLN.out]; exact Nums.of_owns hown4 rfl (by omega)); clear hown4)
    | (go_at_call 23; refine (pathBags_any _ _ g.length (ofG g) ln hln16 HLT.out _ (HX3.out.next hb4) HN4.out (((HT.out.keep hb2).keep hb3).keep hb4)).mono ?_; rintro e w5 ⟨u5, rfl, ho5, hT5, hb5⟩; have HX5 : Hid (Sl w5 59 u5 (mskL (bagsP g.length (ofG g) ln ln.length)).length ((mskL (bagsP g.length (ofG g) ln ln.length)).map u32v)) := Lib.hid (by rw [mskL_length, bagsP_length]; exact Sl.of_owns ho5 (by omega)); have HT5 := Lib.hid hT5; clear ho5 hT5)
    | (go_at_call 22; refine (results_any _ (mskL (bagsP g.length (ofG g) ln ln.length)) (fun s hs => by obtain ⟨b, hb, rfl⟩ := List.mem_map.1 hs; have := mask_nat_lt16 (l := b) (fun i hi => by have := (HMS.out b hb).2 i hi; omega); omega) (by rw [mskL_length, bagsP_length]; omega) _ HX5.out HT5.out).mono ?_; rintro e w6 ⟨u6, rfl, hd6, hb6⟩))
  go_ret
  rw [rowsOf_bags hle HMS.out, hlnl.out, hlnE.out] at hd6
  have s2 := hb2.size
  have s3 := hb3.size
  have s4 := hb4.size
  have s5 := hb5.size
  exact ⟨_, _, rfl, .inl ⟨Hok.out.1, Hok.out.2, rfl⟩, hd6.base (by omega), by rw [List.length_map, bagsP_length]; exact hll16, bags_row hle _ _ _, ((((hbA.out.trans (hb2.mono h0)).trans (hb3.mono (by omega))).trans (hb4.mono (by omega))).trans (hb5.mono (by omega))).trans (hb6.mono (by omega))⟩

end Go.Proofs.YtlhkhibnbmnjiaaDoor
