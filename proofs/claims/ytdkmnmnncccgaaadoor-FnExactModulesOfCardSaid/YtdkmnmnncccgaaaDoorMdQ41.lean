/- Walks: smallestSet; the program's ObstacleOf. -/
import Derived.Test.YtdkmnmnncccgaaaDoorMdQ40
namespace Go.Proofs.YtdkmnmnncccgaaaDoor
open Go.RowKit

set_option maxRecDepth 100000 in
set_option maxHeartbeats 4000000 in
theorem smallestSet_any (g : List (List Int)) (xp : Option Addr) (xc ba : Nat) (w : World) (hB : ObBase w g xp xc ba) :
    Calls Tryd.prog 31 #[.int .i64 g.length, .func (.func 32) #[] #[.pointer (some ⟨ba, 0, none⟩)]] w fun e w' => ∃ z : Int, e = .returned (.tuple #[.int .u32 z, .bool (dec (∃ t, t < 2 ^ g.length ∧ StuckN g t))]) ∧
      ((∃ s : Nat, z = s ∧ LeastP (StuckN g) g.length s) ∨ ∀ t, t < 2 ^ g.length → ¬ StuckN g t) ∧ Below w.heap.size w w' := by
  have HB := Lib.hid hB
  have h8 := hB.h8
  have HW0 : Hid (ObW w ba 0 ((w.alloc (.cells #[.func (.func 32) #[] #[.pointer (some ⟨ba, 0, none⟩)]] 55)).alloc (.cells #[.int .u32 0] 50))) := Lib.hid
    { bel := below_alloc2 w _ _
      fit := (Box.new w _ _).alloc _
      fnd := by
        have := Box.new (w.alloc (.cells #[.func (.func 32) #[] #[.pointer (some ⟨ba, 0, none⟩)]] 55)) (.int .u32 0) 50
        rwa [size_alloc] at this }
  clear hB
  go_enter Tryd.func31, Tryd.ntmps31
  go_wp2
  go_loopw [7] (fun i wr => ∃ (m : Nat) (z' : Int), m ≤ g.length + 1 ∧ i = .int .i64 m ∧ (∀ m', m' < m → ChNo (StuckN g) g.length 0 m' 0) ∧ ObW w ba z' wr) (fun i _ => g.length + 1 - (intOf i).toNat)
  case atStart => exact ⟨0, 0, Nat.zero_le _, rfl, fun m' h => by omega, HW0.out⟩
  case round =>
    clear HW0
    obtain ⟨m, z1, hm, rfl, hno, hW⟩ := hrel
    have HNO := Lib.hid hno
    have HW := Lib.hid hW
    clear hno hW
    by_cases hle : m ≤ g.length
    · have hli : (m : Int) ≤ (g.length : Int) := by omega
      by_cases hyes : ∃ s, ChYes (StuckN g) g.length 0 m 0 s
      · have hd := Lib.hid (dec_true hyes)
        have HY := Lib.hid hyes
        clear hyes
        go_wp2_with (go_at_call 52; refine (chooseSets_any g xp xc ba w HB.out m 0 0 _ _ _ rfl rfl rfl (Nat.two_pow_pos _) hle (Nat.zero_le _) _ z1 HW.out).mono ?_; rintro e w3 ⟨he3, z3, hW3, hr3⟩; rw [hd.out] at he3; subst he3; have c3 := hW3.fnd.cell; have HW3 := Lib.hid hW3; have HR3 := Lib.hid hr3; clear hW3 hr3)
        go_ret2
        rcases HR3.out with ⟨s, hz, hy⟩ | hno
        · have hL := least_ch (by omega) HNO.out hy
          exact ⟨z3, by rw [dec_true (show ∃ t, t < 2 ^ g.length ∧ StuckN g t from ⟨s, hL.1, hL.2.1⟩)]; rfl, .inl ⟨s, hz, hL⟩, HW3.out.bel⟩
        · exact absurd HY.out (ch_yes_no hno)
      · have hd := Lib.hid (dec_false hyes)
        have HY := Lib.hid hyes
        clear hyes
        go_wp2_with (go_at_call 52; refine (chooseSets_any g xp xc ba w HB.out m 0 0 _ _ _ rfl rfl rfl (Nat.two_pow_pos _) hle (Nat.zero_le _) _ z1 HW.out).mono ?_; rintro e w3 ⟨he3, z3, hW3, hr3⟩; rw [hd.out] at he3; subst he3; have HW3 := Lib.hid hW3; have HR3 := Lib.hid hr3; clear hW3 hr3)
        go_roundw
        case rel =>
          rcases HR3.out with ⟨s, hz, hy⟩ | hno
          · exact absurd ⟨s, hy⟩ HY.out
          · refine ⟨m + 1, z3, by omega, by go_num, fun m' h => ?_, HW3.out⟩
            by_cases e : m' < m
            · exact HNO.out m' e
            · obtain rfl : m' = m := by omega
              exact hno
        case measure => simp [intOf]; omega
    · obtain rfl : m = g.length + 1 := by omega
      have hN := none_ch (by omega) HNO.out
      have HN := Lib.hid hN
      clear hN
      go_wp2
      go_ret2
      exact ⟨0, by rw [dec_false (show ¬ ∃ t, t < 2 ^ g.length ∧ StuckN g t from fun ⟨t, h1, h2⟩ => HN.out t h1 h2)]; rfl, .inr HN.out, HW.out.bel⟩

set_option maxRecDepth 100000 in
set_option maxHeartbeats 1000000 in
theorem isSmall_any (v : Value) (g : List (List Int)) (w : World) (hg : Gr w v g) :
    Calls Tryd.prog 29 #[v] w fun e w' => e = .returned (.bool (dec (GOk g ∧ g.length ≤ 8))) ∧ Below w.heap.size w w' := by
  have hg0 := hg
  obtain ⟨u, rfl, hr⟩ := hg
  obtain ⟨p, c, rfl, _, _, _⟩ := hr.shape
  have hbA := Lib.hid (below_alloc w (.cells #[.slice p g.length c] 29))
  have HG := Lib.hid (hg0.below hbA.out)
  have BX := Lib.hid (Box.new w (.slice p g.length c) 29)
  clear hr hg0
  by_cases hok : GOk g
  · have hd := dec_true hok
    have Hok := Lib.hid hok
    clear hok
    have H : dec (GOk g ∧ g.length ≤ 8) = decide (g.length ≤ 8) := by
      by_cases h : g.length ≤ 8
      · rw [dec_true (show GOk g ∧ g.length ≤ 8 from ⟨Hok.out, h⟩)]; simp [h]
      · rw [dec_false (show ¬ (GOk g ∧ g.length ≤ 8) from fun k => h k.2)]; simp [h]
    have HH := Lib.hid H
    clear H
    go_enter Tryd.func29, Tryd.ntmps29
    go_wp2_with (go_at_call 42; refine (implGraphOk_any _ g _ HG.out).mono ?_; rintro e w2 ⟨he, hb2⟩; rw [hd] at he; subst he; have hbx := (BX.out.keep hb2).cell)
    go_ret
    exact ⟨by rw [HH.out]; exact ret_bool (by simp; omega), hbA.out.trans (hb2.mono hbA.out.size)⟩
  · have hd := dec_false hok
    have HH := Lib.hid (dec_false (show ¬ (GOk g ∧ g.length ≤ 8) from fun k => hok k.1))
    clear hok
    go_enter Tryd.func29, Tryd.ntmps29
    go_wp2_with (go_at_call 42; refine (implGraphOk_any _ g _ HG.out).mono ?_; rintro e w2 ⟨he, hb2⟩; rw [hd] at he; subst he)
    go_ret
    exact ⟨by rw [HH.out]; rfl, hbA.out.trans (hb2.mono hbA.out.size)⟩

set_option maxRecDepth 100000 in
set_option maxHeartbeats 2000000 in
theorem implObstacleOf_any (v : Value) (g : List (List Int)) (w : World) (hg : Gr w v g) (hT : Tab w) :
    Calls Tryd.prog 9 #[v] w fun e w' => ∃ (ov : Value) (ys : List Int), e = .returned (.tuple #[ov, .bool (dec (ObB g))]) ∧ ObS g ys ∧ ys.length ≤ 16 ∧
      w'.ownsRow w.heap.size 2 1 ov ys.length (ys.map (Value.int .i64)) ∧ Below w.heap.size w w' := by
  have hg0 := hg
  obtain ⟨u, rfl, hr⟩ := hg
  obtain ⟨p, c, rfl, _, _, _⟩ := hr.shape
  have hbA := Lib.hid (below_alloc w (.cells #[.slice p g.length c] 29))
  have HG := Lib.hid (hg0.below hbA.out)
  have BX := Lib.hid (Box.new w (.slice p g.length c) 29)
  have HT := Lib.hid (hT.keep hbA.out)
  have s0 := hbA.out.size
  clear hr hg0 hT
  by_cases hok : GOk g ∧ g.length ≤ 8
  case neg =>
    obtain ⟨hno, hS⟩ := obS_out hok
    have hnd := Lib.hid (dec_false hno)
    have HS := Lib.hid hS
    have hd := dec_false hok
    clear hno hS hok
    go_enter Tryd.func9, Tryd.ntmps9
    go_wp2_with (go_at_call 29; refine (isSmall_any _ g _ HG.out).mono ?_; rintro e w2 ⟨he, hb2⟩; rw [hd] at he; subst he)
    go_ret2
    exact ⟨_, [], by rw [hnd.out]; rfl, HS.out, by simp, ⟨rfl, .inl ⟨rfl, rfl⟩⟩, hbA.out.trans (hb2.mono hbA.out.size)⟩
  have hd := dec_true hok
  have h16 := hok.1.le
  have Hok := Lib.hid hok
  clear hok
  by_cases hyes : ∃ t, t < 2 ^ g.length ∧ StuckN g t
  · have hd2 := Lib.hid (dec_true hyes)
    have HY := Lib.hid hyes
    clear hyes
    go_enter Tryd.func9, Tryd.ntmps9
    go_wp2_with (first
      | (go_at_call 29; refine (isSmall_any _ g _ HG.out).mono ?_; rintro e w2 ⟨he, hb2⟩; rw [hd] at he; subst he; have hbx := (BX.out.keep hb2).cell)
      | (go_at_call 30; refine (netsOf_any _ g _ (HG.out.below hb2) Hok.out.1).mono ?_; rintro e w3 ⟨x, rfl, hown3, hb3⟩; have hx3 := Sl.of_owns hown3 (by omega); obtain ⟨xp, xc, rfl⟩ := hx3.shapeP; have HB3 := Lib.hid (below_alloc w3 (.cells #[.slice xp g.length xc] 47)); have HBS := Lib.hid (show ObBase (w3.alloc (.cells #[.slice xp g.length xc] 47)) g xp xc w3.heap.size from ⟨Hok.out.1, Hok.out.2, Box.new _ _ _, hx3.below HB3.out, ((HT.out.keep hb2).keep hb3).keep HB3.out⟩); clear hx3 hown3)
      | (go_at_call 31; refine (smallestSet_any g xp xc w3.heap.size _ HBS.out).mono ?_; rintro e w4 ⟨z, he4, hz4, hb4⟩; rw [hd2.out] at he4; subst he4; obtain ⟨s, rfl, hL⟩ := hz4.resolve_right (fun h => HY.out.elim fun t ht => h t ht.1 ht.2); have HL := Lib.hid hL; clear hL hz4)
      | (go_at_call 34; refine (numbers_any _ s rfl (by have := (cand_bits h16 HL.out.1).2; omega) _ (HBS.out.tab.keep hb4)).mono ?_; rintro e w6 ⟨lv, rfl, ho6, hb6⟩; have HO6 := Lib.hid ho6; clear ho6))
    have hb' : Below w.heap.size w w4 := ((hbA.out.trans (hb2.mono s0)).trans (hb3.mono (Nat.le_trans s0 hb2.size))).trans ((HB3.out.mono (Nat.le_trans (Nat.le_trans s0 hb2.size) hb3.size)).trans (hb4.mono (by rw [size_alloc]; have := hb2.size; have := hb3.size; omega)))
    have s4 := hb'.size
    go_ret2
    obtain ⟨hb, hS, hl16⟩ := obS_some Hok.out.1 Hok.out.2 HL.out
    exact ⟨lv, natInts (bitsOf s), by rw [dec_true hb]; rfl, hS, hl16, by rw [natInts_length]; exact ownsRow_base HO6.out (by omega), hb'.trans (hb6.mono s4)⟩
  · obtain ⟨hno, hS⟩ := obS_none (g := g) (fun t h1 h2 => hyes ⟨t, h1, h2⟩)
    have hnd := Lib.hid (dec_false hno)
    have HS := Lib.hid hS
    have hd2 := Lib.hid (dec_false hyes)
    clear hyes hno hS
    go_enter Tryd.func9, Tryd.ntmps9
    go_wp2_with (first
      | (go_at_call 29; refine (isSmall_any _ g _ HG.out).mono ?_; rintro e w2 ⟨he, hb2⟩; rw [hd] at he; subst he; have hbx := (BX.out.keep hb2).cell)
      | (go_at_call 30; refine (netsOf_any _ g _ (HG.out.below hb2) Hok.out.1).mono ?_; rintro e w3 ⟨x, rfl, hown3, hb3⟩; have hx3 := Sl.of_owns hown3 (by omega); obtain ⟨xp, xc, rfl⟩ := hx3.shapeP; have HB3 := Lib.hid (below_alloc w3 (.cells #[.slice xp g.length xc] 47)); have HBS := Lib.hid (show ObBase (w3.alloc (.cells #[.slice xp g.length xc] 47)) g xp xc w3.heap.size from ⟨Hok.out.1, Hok.out.2, Box.new _ _ _, hx3.below HB3.out, ((HT.out.keep hb2).keep hb3).keep HB3.out⟩); clear hx3 hown3)
      | (go_at_call 31; refine (smallestSet_any g xp xc w3.heap.size _ HBS.out).mono ?_; rintro e w4 ⟨z, he4, hz4, hb4⟩; rw [hd2.out] at he4; subst he4; clear hz4))
    have hb' : Below w.heap.size w w4 := ((hbA.out.trans (hb2.mono s0)).trans (hb3.mono (Nat.le_trans s0 hb2.size))).trans ((HB3.out.mono (Nat.le_trans (Nat.le_trans s0 hb2.size) hb3.size)).trans (hb4.mono (by rw [size_alloc]; have := hb2.size; have := hb3.size; omega)))
    have s4 := hb'.size
    go_ret2
    exact ⟨_, [], by rw [hnd.out]; rfl, HS.out, by simp, ⟨rfl, .inl ⟨rfl, rfl⟩⟩, hb'⟩

end Go.Proofs.YtdkmnmnncccgaaaDoor
