/- Walks: the program's modules: the least one that contains a set, whether one is, what splits one. -/
import Derived.Test.YtmakhapdlkbbnaaDoorMlQ20
import Derived.Test.YtmakhapdlkbbnaaDoorMlQ25
namespace Go.Proofs.YtmakhapdlkbbnaaDoor
open Go.RowKit

theorem setIn_bits {n s : Nat} (h16 : n ≤ 16) (hs : s < 2 ^ n) : SetIn n (natInts (bitsOf s)) := by
  obtain ⟨h, _⟩ := cand_bits h16 hs
  refine ⟨fun x hx => ?_, ?_⟩
  · obtain ⟨i, hi, rfl⟩ := mem_natInts.1 hx
    have := (h.inn i hi).2
    omega
  · unfold natInts
    rw [List.pairwise_map]
    exact h.ris.imp fun h => by omega
theorem bits_len_pos {s : Nat} (h0 : s ≠ 0) (hs : s < 65536) : 0 < (bitsOf s).length := by
  obtain ⟨i, hi⟩ := Nat.exists_testBit_of_ne_zero h0
  exact List.length_pos_of_mem ((mem_bitsOf' (by omega)).2 hi)

set_option maxRecDepth 100000 in
set_option maxHeartbeats 2000000 in
theorem closureOf_any (g : List (List Int)) (xp : Option Addr) (xc : Nat) (yw ys : Int) (W s : Nat) (hyw : yw = W) (hys : ys = s) (hW : W = 2 ^ g.length - 1) (hs : s < 2 ^ g.length) (hok : GOk g) (w : World) (hx : Sl w 79 (.slice xp g.length xc) g.length ((netL g).map u32v)) (hT : Tab w) :
    Calls Tryd.prog 101 #[.slice xp g.length xc, .int .u32 yw, .int .u32 ys] w fun e w' => ∃ c : Nat, e = .returned (.int .u32 c) ∧ ClsN g s c ∧ Below w.heap.size w w' := by
  subst hyw hys
  have HX := Lib.hid hx
  have HT := Lib.hid hT
  have HOK := Lib.hid hok
  have HW := Lib.hid hW
  have START := Lib.hid (ClI.start hs)
  have h16 := hok.le
  clear hx hT hok hW hs
  go_enter Tryd.func101, Tryd.ntmps101
  go_wp2
  go_loopw [2, 7] (fun v _ wr => ∃ t : Nat, v = .int .u32 t ∧ Hid (ClI g s t) ∧ Hid (Below w.heap.size w wr)) (fun v _ _ => 2 ^ g.length - (intOf v).toNat)
  case atStart => exact ⟨s, rfl, START, Lib.hid (Below.refl _ _)⟩
  case round =>
    clear START
    obtain ⟨t, rfl, HI, HB⟩ := hrel
    have ht16 := (cand_bits h16 HI.out.lt).2
    go_upto_region 2 with (go_at_call 107; refine (splittersB_any g xp xc _ _ W t rfl rfl HW.out HI.out.lt HOK.out _ (HX.out.below HB.out) (HT.out.keep HB.out)).mono ?_; rintro e w2 ⟨z, rfl, hz, hb2⟩)
    have HZ := Lib.hid hz
    have hz16 := hz.1
    have HB2 := Lib.hid (HB.out.trans (hb2.mono HB.out.size))
    clear hz hb2
    by_cases h0 : z = 0
    · have hm := (splZ_zero HZ.out).1 h0
      have HM := Lib.hid hm
      have h0' : ((z : Int) == 0) = true := by simp [h0]
      clear hm h0
      go_wp2
      go_ret
      exact ⟨t, rfl, ⟨HI.out, HM.out⟩, HB2.out⟩
    · have h0' : ((z : Int) == 0) = false := by simp; omega
      have hor := Lib.hid (u32_or_nat t z (by omega) (by omega))
      have HMORE : Hid (ClI g s (t ||| z)) := Lib.hid (HI.out.more fun v hv => ⟨((HZ.out.2 v).1 hv).1, ((HZ.out.2 v).1 hv).2.2⟩)
      have HGR : Hid (t < t ||| z) := Lib.hid (or_grows h0 fun v hv => ((HZ.out.2 v).1 hv).2.1)
      clear h0
      go_wp2
      go_roundw
      case rel => exact ⟨t ||| z, by rw [hor.out], HMORE, HB2⟩
      case measure =>
        have h1 := HGR.out
        have h2 := HMORE.out.lt
        first | (rw [hor.out]; simp [intOf]; omega) | (simp [intOf, hor.out]; omega)

set_option maxRecDepth 100000 in
set_option maxHeartbeats 2000000 in
theorem implModuleIn_yes (v lv : Value) (g : List (List Int)) (s : Nat) (hok : GOk g) (hs : s < 2 ^ g.length) (hs0 : s ≠ 0) (w : World) (hg : Gr w v g) (hn : Nums w 2 .i64 lv (natInts (bitsOf s))) (hT : Tab w) :
    Calls Tryd.prog 29 #[v, lv] w fun e w' => e = .returned (.bool (dec (ModN g s))) ∧ Below w.heap.size w w' := by
  have hg0 := hg
  obtain ⟨u, rfl, hr⟩ := hg
  obtain ⟨p, c, rfl, _⟩ := hr.shape
  obtain ⟨lp, lc, rfl, _⟩ := id hn.shape
  have hbA := Lib.hid (below_alloc w (.cells #[.slice p g.length c] 29))
  have HG := Lib.hid (hg0.below hbA.out)
  have HN := Lib.hid (hn.below hbA.out)
  have BX := Lib.hid (Box.new w (.slice p g.length c) 29)
  have HT := Lib.hid (hT.keep hbA.out)
  have h16 := hok.le
  have HC := Lib.hid (cand_bits h16 hs).1
  have hs16 := (cand_bits h16 hs).2
  have hset := setIn_bits h16 hs
  have hd := Lib.hid (dec_true (show GOk g ∧ SetIn g.length (natInts (bitsOf s)) from ⟨hok, hset⟩))
  have HR16 : Hid (∀ x ∈ natInts (bitsOf s), 0 ≤ x ∧ x < 16) := Lib.hid (fun x hx => by have := hset.1 x hx; omega)
  have hne := bits_len_pos hs0 hs16
  have hne' : (((bitsOf s).length : Int) == 0) = false := beq_eq_false_iff_ne.2 (by omega)
  have HMS : Hid (mask (natInts (bitsOf s)) = s) := Lib.hid (mask_bitsOf hs16)
  obtain ⟨L, hL⟩ : ∃ L, L = bitsOf s := ⟨_, rfl⟩
  rw [← hL] at HN hd HR16 hne hne' HMS ⊢
  have HOK := Lib.hid hok
  have HS := Lib.hid hs
  obtain ⟨W, hW⟩ : ∃ W, W = 2 ^ g.length - 1 := ⟨_, rfl⟩
  have HW := Lib.hid hW
  have HLE := Lib.hid hL
  clear hr hg0 hn hT hok hs hset hL hW HC
  simp only [natInts_length] at *
  go_enter Tryd.func29, Tryd.ntmps29
  go_wp2_with (first
    | (go_at_call 93; refine (implSetOk_any _ _ g (natInts L) (by omega) _ HG.out HN.out).mono ?_; rintro e w2 ⟨he, hb2⟩; rw [hd.out] at he; subst he; have hbx := (BX.out.keep hb2).cell)
    | (go_at_call 82; refine (netsOf_any _ g _ (HG.out.below hb2) HOK.out).mono ?_; rintro e w3 ⟨x, rfl, hown3, hb3⟩; have HX3 := Lib.hid (Sl.of_owns hown3 (by omega)); obtain ⟨xp, xc, rfl⟩ := owns_shapeA hown3; have HT3 := Lib.hid ((HT.out.keep hb2).keep hb3); clear hown3)
    | (go_at_call 98; refine (all_any _ _ _ (by omega) _).mono ?_; rintro e wA ⟨he, rfl⟩; rw [← HW.out] at he; subst he)
    | (go_at_call 102; refine (maskOf_any _ (natInts L) HR16.out _ ((HN.out.below hb2).below hb3)).mono ?_; rintro e wB ⟨he, rfl⟩; rw [HMS.out] at he; subst he)
    | (go_at_call 107; refine (splittersB_any g xp xc _ _ W s rfl rfl HW.out HS.out HOK.out _ HX3.out HT3.out).mono ?_; rintro e w4 ⟨z, rfl, hz, hb4⟩; have HZ := Lib.hid hz; clear hz))
  go_ret
  refine ⟨ret_bool ?_, ((hbA.out.trans (hb2.mono hbA.out.size)).trans (hb3.mono (Nat.le_trans hbA.out.size hb2.size))).trans (hb4.mono (Nat.le_trans (Nat.le_trans hbA.out.size hb2.size) hb3.size))⟩
  by_cases h0 : z = 0
  · rw [dec_true ((splZ_zero HZ.out).1 h0), h0]; rfl
  · rw [dec_false fun h => h0 ((splZ_zero HZ.out).2 h)]
    simp
    omega

set_option maxRecDepth 100000 in
set_option maxHeartbeats 2000000 in
theorem implSplitterOf_yes (v lv : Value) (g : List (List Int)) (s : Nat) (hok : GOk g) (hs : s < 2 ^ g.length) (hs0 : s ≠ 0) (w : World) (hg : Gr w v g) (hn : Nums w 2 .i64 lv (natInts (bitsOf s))) (hT : Tab w) :
    Calls Tryd.prog 30 #[v, lv] w fun e w' => ∃ z : Int, e = .returned (.int .i64 z) ∧ ((z = -1 ∧ ModN g s) ∨ (∃ i : Nat, z = i ∧ i < g.length ∧ s.testBit i = false ∧ SplN g i s ∧ ¬ ModN g s)) ∧ Below w.heap.size w w' := by
  have hg0 := hg
  obtain ⟨u, rfl, hr⟩ := hg
  obtain ⟨p, c, rfl, _⟩ := hr.shape
  obtain ⟨lp, lc, rfl, _⟩ := id hn.shape
  have hbA := Lib.hid (below_alloc w (.cells #[.slice p g.length c] 29))
  have HG := Lib.hid (hg0.below hbA.out)
  have HN := Lib.hid (hn.below hbA.out)
  have BX := Lib.hid (Box.new w (.slice p g.length c) 29)
  have HT := Lib.hid (hT.keep hbA.out)
  have h16 := hok.le
  have HC := Lib.hid (cand_bits h16 hs).1
  have hs16 := (cand_bits h16 hs).2
  have hset := setIn_bits h16 hs
  have hd := Lib.hid (dec_true (show GOk g ∧ SetIn g.length (natInts (bitsOf s)) from ⟨hok, hset⟩))
  have HR16 : Hid (∀ x ∈ natInts (bitsOf s), 0 ≤ x ∧ x < 16) := Lib.hid (fun x hx => by have := hset.1 x hx; omega)
  have hne := bits_len_pos hs0 hs16
  have hne' : (((bitsOf s).length : Int) == 0) = false := beq_eq_false_iff_ne.2 (by omega)
  have HMS : Hid (mask (natInts (bitsOf s)) = s) := Lib.hid (mask_bitsOf hs16)
  obtain ⟨L, hL⟩ : ∃ L, L = bitsOf s := ⟨_, rfl⟩
  rw [← hL] at HN hd HR16 hne hne' HMS ⊢
  have HOK := Lib.hid hok
  have HS := Lib.hid hs
  obtain ⟨W, hW⟩ : ∃ W, W = 2 ^ g.length - 1 := ⟨_, rfl⟩
  have HW := Lib.hid hW
  have HLE := Lib.hid hL
  clear hr hg0 hn hT hok hs hset hL hW HC
  simp only [natInts_length] at *
  go_enter Tryd.func30, Tryd.ntmps30
  go_upto_region 5 with (first
    | (go_at_call 93; refine (implSetOk_any _ _ g (natInts L) (by omega) _ HG.out HN.out).mono ?_; rintro e w2 ⟨he, hb2⟩; rw [hd.out] at he; subst he; have hbx := (BX.out.keep hb2).cell)
    | (go_at_call 82; refine (netsOf_any _ g _ (HG.out.below hb2) HOK.out).mono ?_; rintro e w3 ⟨x, rfl, hown3, hb3⟩; have HX3 := Lib.hid (Sl.of_owns hown3 (by omega)); obtain ⟨xp, xc, rfl⟩ := owns_shapeA hown3; have HT3 := Lib.hid ((HT.out.keep hb2).keep hb3); clear hown3)
    | (go_at_call 98; refine (all_any _ _ _ (by omega) _).mono ?_; rintro e wA ⟨he, rfl⟩; rw [← HW.out] at he; subst he)
    | (go_at_call 102; refine (maskOf_any _ (natInts L) HR16.out _ ((HN.out.below hb2).below hb3)).mono ?_; rintro e wB ⟨he, rfl⟩; rw [HMS.out] at he; subst he)
    | (go_at_call 107; refine (splittersB_any g xp xc _ _ W s rfl rfl HW.out HS.out HOK.out _ HX3.out HT3.out).mono ?_; rintro e w4 ⟨z, rfl, hz, hb4⟩; have HZ := Lib.hid hz; have HT4 := Lib.hid (HT3.out.keep hb4); have hz16 := hz.1; clear hz))
  have HBB := Lib.hid (((hbA.out.trans (hb2.mono hbA.out.size)).trans (hb3.mono (Nat.le_trans hbA.out.size hb2.size))).trans (hb4.mono (Nat.le_trans (Nat.le_trans hbA.out.size hb2.size) hb3.size)))
  clear hb2 hb3 hb4
  by_cases h0 : z = 0
  · have h0' : ((z : Int) == 0) = true := by simp [h0]
    have HM := Lib.hid ((splZ_zero HZ.out).1 h0)
    clear h0
    go_wp2
    go_ret
    exact ⟨-1, rfl, .inl ⟨rfl, HM.out⟩, HBB.out⟩
  · have h0' : ((z : Int) == 0) = false := by simp; omega
    have HM : Hid (¬ ModN g s) := Lib.hid (fun h => h0 ((splZ_zero HZ.out).2 h))
    obtain ⟨hc1, hc2, _⟩ := testBit_ctz z h0 (by omega)
    have HC := Lib.hid ((HZ.out.2 _).1 hc1)
    have H0 := Lib.hid h0
    clear h0 hc1
    go_wp2_with (go_at_call 108; refine (least_any _ z rfl H0.out (by omega) _ HT4.out).mono ?_; rintro e w5 ⟨he5, rfl⟩; subst he5)
    go_ret
    exact ⟨((Lib.ctz 32 z : Nat) : Int), rfl, .inr ⟨Lib.ctz 32 z, rfl, HC.out.1, HC.out.2.1, HC.out.2.2, HM.out⟩, HBB.out⟩

set_option maxRecDepth 100000 in
set_option maxHeartbeats 2000000 in
theorem implClosureOf_yes (v lv : Value) (g : List (List Int)) (s : Nat) (hok : GOk g) (hs : s < 2 ^ g.length) (hs0 : s ≠ 0) (w : World) (hg : Gr w v g) (hn : Nums w 2 .i64 lv (natInts (bitsOf s))) (hT : Tab w) :
    Calls Tryd.prog 27 #[v, lv] w fun e w' => ∃ (u : Value) (c : Nat), e = .returned u ∧ ClsN g s c ∧ w'.ownsRow w.heap.size 2 1 u (bitsOf c).length ((natInts (bitsOf c)).map (Value.int .i64)) ∧ Below w.heap.size w w' := by
  have hg0 := hg
  obtain ⟨u, rfl, hr⟩ := hg
  obtain ⟨p, c, rfl, _⟩ := hr.shape
  obtain ⟨lp, lc, rfl, _⟩ := id hn.shape
  have hbA := Lib.hid (below_alloc w (.cells #[.slice p g.length c] 29))
  have HG := Lib.hid (hg0.below hbA.out)
  have HN := Lib.hid (hn.below hbA.out)
  have BX := Lib.hid (Box.new w (.slice p g.length c) 29)
  have HT := Lib.hid (hT.keep hbA.out)
  have h16 := hok.le
  have HC := Lib.hid (cand_bits h16 hs).1
  have hs16 := (cand_bits h16 hs).2
  have hset := setIn_bits h16 hs
  have hd := Lib.hid (dec_true (show GOk g ∧ SetIn g.length (natInts (bitsOf s)) from ⟨hok, hset⟩))
  have HR16 : Hid (∀ x ∈ natInts (bitsOf s), 0 ≤ x ∧ x < 16) := Lib.hid (fun x hx => by have := hset.1 x hx; omega)
  have hne := bits_len_pos hs0 hs16
  have hne' : (((bitsOf s).length : Int) == 0) = false := beq_eq_false_iff_ne.2 (by omega)
  have HMS : Hid (mask (natInts (bitsOf s)) = s) := Lib.hid (mask_bitsOf hs16)
  obtain ⟨L, hL⟩ : ∃ L, L = bitsOf s := ⟨_, rfl⟩
  rw [← hL] at HN hd HR16 hne hne' HMS ⊢
  have HOK := Lib.hid hok
  have HS := Lib.hid hs
  obtain ⟨W, hW⟩ : ∃ W, W = 2 ^ g.length - 1 := ⟨_, rfl⟩
  have HW := Lib.hid hW
  have HLE := Lib.hid hL
  clear hr hg0 hn hT hok hs hset hL hW HC
  simp only [natInts_length] at *
  go_enter Tryd.func27, Tryd.ntmps27
  go_wp2_with (first
    | (go_at_call 93; refine (implSetOk_any _ _ g (natInts L) (by omega) _ HG.out HN.out).mono ?_; rintro e w2 ⟨he, hb2⟩; rw [hd.out] at he; subst he; have hbx := (BX.out.keep hb2).cell)
    | (go_at_call 82; refine (netsOf_any _ g _ (HG.out.below hb2) HOK.out).mono ?_; rintro e w3 ⟨x, rfl, hown3, hb3⟩; have HX3 := Lib.hid (Sl.of_owns hown3 (by omega)); obtain ⟨xp, xc, rfl⟩ := owns_shapeA hown3; have HT3 := Lib.hid ((HT.out.keep hb2).keep hb3); clear hown3)
    | (go_at_call 98; refine (all_any _ _ _ (by omega) _).mono ?_; rintro e wA ⟨he, rfl⟩; rw [← HW.out] at he; subst he)
    | (go_at_call 102; refine (maskOf_any _ (natInts L) HR16.out _ ((HN.out.below hb2).below hb3)).mono ?_; rintro e wB ⟨he, rfl⟩; rw [HMS.out] at he; subst he)
    | (go_at_call 101; refine (closureOf_any g xp xc _ _ W s rfl rfl HW.out HS.out HOK.out _ HX3.out HT3.out).mono ?_; rintro e w4 ⟨z, rfl, hz, hb4⟩; have HZ := Lib.hid hz; have HT4 := Lib.hid (HT3.out.keep hb4); have hz16 := (cand_bits h16 hz.1.lt).2; clear hz)
    | (go_at_call 103; refine (numbers_any _ z rfl (by omega) _ HT4.out).mono ?_; rintro e w5 ⟨rv, rfl, hown5, hb5⟩))
  go_ret
  have hb24 := ((hbA.out.trans (hb2.mono hbA.out.size)).trans (hb3.mono (Nat.le_trans hbA.out.size hb2.size))).trans (hb4.mono (Nat.le_trans (Nat.le_trans hbA.out.size hb2.size) hb3.size))
  exact ⟨_, z, rfl, HZ.out, ownsRow_base hown5 hb24.size, hb24.trans (hb5.mono hb24.size)⟩

end Go.Proofs.YtmakhapdlkbbnaaDoor
