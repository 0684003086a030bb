/- Walks: the program's test whether sets touch, and whether they are a bramble. -/
import Derived.Test.YtihlcmenfopaiaaDoorMmQ27
namespace Go.Proofs.YtihlcmenfopaiaaDoor
open Go.RowKit

def TouchM (E : Nat → Nat → Bool) (a b : Nat) : Prop := (∃ i, a.testBit i = true ∧ b.testBit i = true) ∨ ∃ v u, a.testBit v = true ∧ b.testBit u = true ∧ E v u = true
theorem and_zero_iff {a b : Nat} : a &&& b = 0 ↔ ∀ i, ¬ (a.testBit i = true ∧ b.testBit i = true) := by
  constructor
  · intro h i ⟨h1, h2⟩
    have := congrArg (fun x => x.testBit i) h
    simp [h1, h2] at this
  · intro h
    refine Nat.eq_of_testBit_eq fun i => ?_
    rw [Nat.testBit_and, Nat.zero_testBit, Bool.eq_false_iff]
    intro k
    rw [Bool.and_eq_true] at k
    exact h i k

set_option maxRecDepth 100000 in
set_option maxHeartbeats 2000000 in
theorem touches_any (x : Value) (y z : Int) (n : Nat) (E : Nat → Nat → Bool) (a b : Nat) (hy : y = a) (hz : z = b) (ha : a < 65536) (hb : b < 65536) (han : ∀ i, a.testBit i = true → i < n) (hbn : ∀ i, b.testBit i = true → i < n) (w : World) (hx : NE w x n E) (hT : Tab w) :
    Calls Tryd.prog 106 #[x, .int .u32 y, .int .u32 z] w fun e w' => e = .returned (.bool (dec (TouchM E a b))) ∧ Below w.heap.size w w' := by
  subst hy; subst hz
  obtain ⟨xp, xc, rfl⟩ : ∃ p c, x = .slice p n c := by obtain ⟨p, c, e, _⟩ := hx.sl; exact ⟨p, c, e⟩
  have HX := Lib.hid hx
  have HT := Lib.hid hT
  have HBN := Lib.hid hbn
  have hand := u32_and_nat a b (by omega) (by omega)
  by_cases h0 : a &&& b = 0
  · have h0' : (((a &&& b : Nat) : Int) != 0) = false := by rw [h0]; rfl
    have H0 := Lib.hid (and_zero_iff.1 h0)
    clear hx hT h0
    have hlen : (bitsOf a).length ≤ 32 := bitsOf_length a
    have HL : Hid (∀ k (h : k < (bitsOf a).length), (bitsOf a)[k] < n ∧ a.testBit (bitsOf a)[k] = true) := Lib.hid (fun k h => by
      have h1 := (mem_left ha).1 (List.getElem_mem h)
      exact ⟨han _ h1, h1⟩)
    have HALL : Hid (∀ v, a.testBit v = true → ∃ k, ∃ h : k < (bitsOf a).length, (bitsOf a)[k] = v) := Lib.hid (fun v hv => List.getElem_of_mem ((mem_left ha).2 hv))
    clear han hbn
    generalize (a &&& b : Nat) = ab at hand h0' H0
    go_enter Tryd.func106, Tryd.ntmps106
    go_wp2_with (go_at_call 83; refine (list_any _ a rfl (by omega) _ HT.out).mono ?_; rintro e w3 ⟨lv, rfl, ho3, hb3⟩; obtain ⟨lp, lc, rfl⟩ : ∃ p c, lv = Value.slice p (bitsOf a).length c := (by rcases ho3.2 with ⟨h1, h2⟩ | ⟨q, cap, cur, h1, _⟩; exact ⟨none, 0, (by rw [h1, h2])⟩; exact ⟨_, _, h1⟩); have HN3 := Lib.hid (numsInt_of _ _ _ _ ho3 (by omega)); have HX3 := Lib.hid (HX.out.next hb3); have HB3 := Lib.hid hb3; clear ho3 hb3)
    go_loopw [16] (fun i wr => ∃ k : Nat, k ≤ (bitsOf a).length ∧ i = .int .i64 k ∧ (∀ j (h : j < (bitsOf a).length), j < k → ∀ u, b.testBit u = true → ¬ E (bitsOf a)[j] u = true) ∧ Below w3.heap.size w3 wr) (fun i _ => (bitsOf a).length - (intOf i).toNat)
    case atStart => exact ⟨0, Nat.zero_le _, rfl, fun j _ hj => absurd hj (Nat.not_lt_zero _), Below.refl _ _⟩
    case round =>
      obtain ⟨k, hk, rfl, hno, hb⟩ := hrel
      have HNO := Lib.hid hno
      have HB := Lib.hid hb
      clear hno
      by_cases hlt : k < (bitsOf a).length
      · obtain ⟨qb, qo, rfl, hq⟩ := (HN3.out.below hb).get (k := k) (by rw [natInts_length]; exact hlt)
        obtain ⟨v, hv⟩ : ∃ v, v = (bitsOf a)[k] := ⟨_, rfl⟩
        have e1 : (natInts (bitsOf a))[k]'(by rw [natInts_length]; exact hlt) = (v : Int) := by simp [natInts, hv]
        rw [e1] at hq
        obtain ⟨hvn, hva⟩ := HL.out k hlt
        rw [← hv] at hvn hva
        obtain ⟨nb, no, av, rfl, hca, ha16, hbit⟩ := (HX3.out.next hb).get hvn
        have hand2 := u32_and_nat av b (by omega) (by omega)
        have HV := Lib.hid hv
        have HBIT := Lib.hid hbit
        have HVA := Lib.hid hva
        clear e1 hb hv hbit hva
        by_cases h1 : av &&& b = 0
        · have h1' : (((av &&& b : Nat) : Int) != 0) = false := by rw [h1]; rfl
          have H1 := Lib.hid (and_zero_iff.1 h1)
          clear h1
          generalize (av &&& b : Nat) = avb at hand2 h1'
          go_wp2_with fail
          go_roundw
          case rel => exact ⟨k + 1, by omega, by go_num, fun j h hj u hu hE => by
            by_cases e : j < k
            · exact HNO.out j h e u hu hE
            · obtain rfl : j = k := by omega
              refine H1.out u ⟨?_, hu⟩
              rw [HBIT.out u, HV.out, hE]
              simp [HBN.out u hu], HB.out⟩
          case measure => simp [intOf]; omega
        · have h1' : (((av &&& b : Nat) : Int) != 0) = true := by simp; omega
          have HY : Hid (TouchM E a b) := Lib.hid (by
            have := mt and_zero_iff.2 h1
            obtain ⟨u, hu⟩ := Classical.not_forall.1 this
            obtain ⟨hu1, hu2⟩ := Classical.not_not.1 hu
            rw [HBIT.out u, Bool.and_eq_true] at hu1
            exact .inr ⟨v, u, HVA.out, hu2, hu1.2⟩)
          clear h1
          generalize (av &&& b : Nat) = avb at hand2 h1'
          go_wp2_with fail
          go_ret
          exact ⟨by rw [dec_true HY.out]; rfl, HB3.out.trans (HB.out.mono HB3.out.size)⟩
      · obtain rfl : k = (bitsOf a).length := by omega
        have HNY : Hid (¬ TouchM E a b) := Lib.hid (fun h => by
          rcases h with ⟨i, h1⟩ | ⟨v, u, h1, h2, h3⟩
          · exact H0.out i h1
          · obtain ⟨j, hj, e⟩ := HALL.out v h1
            exact HNO.out j hj hj u h2 (by rw [e]; exact h3))
        clear hb
        go_wp2_with fail
        go_ret
        exact ⟨by rw [dec_false HNY.out]; rfl, HB3.out.trans (HB.out.mono HB3.out.size)⟩
  · have h0' : (((a &&& b : Nat) : Int) != 0) = true := by simp; omega
    have HY : Hid (TouchM E a b) := Lib.hid (by
      have := mt and_zero_iff.2 h0
      obtain ⟨u, hu⟩ := Classical.not_forall.1 this
      exact .inl ⟨u, Classical.not_not.1 hu⟩)
    clear hx hT h0 han hbn
    generalize (a &&& b : Nat) = ab at hand h0'
    go_enter Tryd.func106, Tryd.ntmps106
    go_wp2
    go_ret
    exact ⟨by rw [dec_true HY.out]; rfl, Below.refl _ _⟩

theorem touch_mask {g : List (List Int)} (hg : GOk g) {A B : List Int} (hA : SetIn g.length A) (hB : SetIn g.length B) : TouchM (ofG g) (mask B) (mask A) ↔ TouchP g A B := by
  have key : ∀ (C : List Int), SetIn g.length C → ∀ i : Nat, (mask C).testBit i = true ↔ (i : Int) ∈ C := fun C hC i => by
    rw [testBit_mask, List.any_eq_true]
    constructor
    · rintro ⟨x, hx, e⟩
      have h1 := (hC.1 x hx).1
      have h2 : x.toNat = i := by simpa using e
      have : (i : Int) = x := by omega
      rw [this]; exact hx
    · intro h
      exact ⟨_, h, by simp⟩
  unfold TouchM TouchP
  constructor
  · rintro (⟨i, h1, h2⟩ | ⟨v, u, h1, h2, h3⟩)
    · exact ⟨i, (key A hA i).1 h2, .inl ((key B hB i).1 h1)⟩
    · unfold ofG at h3
      exact ⟨u, (key A hA u).1 h2, .inr ⟨v, (key B hB v).1 h1, by simpa using h3⟩⟩
  · rintro ⟨x, hx, h⟩
    have hx0 := (hA.1 x hx).1
    obtain ⟨i, rfl⟩ : ∃ i : Nat, x = (i : Int) := ⟨x.toNat, by omega⟩
    rcases h with h | ⟨y, hy, h⟩
    · exact .inl ⟨i, (key B hB i).2 h, (key A hA i).2 hx⟩
    · have hy0 := (hB.1 y hy).1
      obtain ⟨j, rfl⟩ : ∃ j : Nat, y = (j : Int) := ⟨y.toNat, by omega⟩
      exact .inr ⟨j, i, (key B hB j).2 hy, (key A hA i).2 hx, by unfold ofG; simpa using h⟩

set_option maxRecDepth 100000 in
set_option maxHeartbeats 2000000 in
theorem implBrambleOk_any (v sv : Value) (g S : List (List Int)) (hgl : g.length ≤ 1000000000) (w : World) (hg : Gr w v g) (hs : Rws w 27 2 sv S) (hT : Tab w) :
    Calls Tryd.prog 57 #[v, sv] w fun e w' => e = .returned (.bool (dec (BrS g S))) ∧ Below w.heap.size w w' := by
  have hg0 := hg
  obtain ⟨u, rfl, hr⟩ := hg
  obtain ⟨p, c, rfl, _⟩ := hr.shape
  obtain ⟨sp, sc, rfl, _, hsc, _⟩ := hs.shape
  have hbA := Lib.hid (below_alloc w (.cells #[.slice p g.length c] 29))
  have HG := Lib.hid (hg0.below hbA.out)
  have HS := Lib.hid (hs.below hbA.out)
  have HT := Lib.hid (hT.keep hbA.out)
  have BX := Lib.hid (Box.new w (.slice p g.length c) 29)
  clear hr hg0 hT hs
  by_cases hok : GOk g
  case neg =>
    have hd := Lib.hid (dec_false hok)
    have HD := Lib.hid (dec_false (show ¬ BrS g S from fun h => hok h.1.1))
    clear hok
    go_enter Tryd.func57, Tryd.ntmps57
    go_wp2_with (go_at_call 72; refine (implGraphOk_any _ g _ HG.out).mono ?_; rintro e w2 ⟨he, hb2⟩; rw [hd.out] at he; subst he)
    go_ret
    exact ⟨by rw [HD.out]; rfl, hbA.out.trans (hb2.mono hbA.out.size)⟩
  have hd := Lib.hid (dec_true hok)
  have h16 := hok.le
  have Hok := Lib.hid hok
  clear hok
  by_cases h80 : S.length ≤ 80
  case neg =>
    have h80' : ¬ (S.length : Int) ≤ 80 := by omega
    have HD := Lib.hid (dec_false (show ¬ BrS g S from fun h => h80 h.1.2))
    clear h80
    go_enter Tryd.func57, Tryd.ntmps57
    go_wp2_with (go_at_call 72; refine (implGraphOk_any _ g _ HG.out).mono ?_; rintro e w2 ⟨he, hb2⟩; rw [hd.out] at he; subst he)
    go_ret
    exact ⟨by rw [HD.out]; rfl, hbA.out.trans (hb2.mono hbA.out.size)⟩
  have h80' : (S.length : Int) ≤ 80 := by omega
  go_enter Tryd.func57, Tryd.ntmps57
  go_wp2_with (first
    | (go_at_call 72; refine (implGraphOk_any _ g _ HG.out).mono ?_; rintro e w2 ⟨he, hb2⟩; rw [hd.out] at he; subst he; have hbx := (BX.out.keep hb2).cell)
    | (go_at_call 77; refine (netsOf_any _ g _ (HG.out.below hb2) Hok.out).mono ?_; rintro e w3 ⟨x, rfl, hown3, hb3⟩; have HX3 : Hid (NE w3 x g.length (ofG g)) := Lib.hid ⟨h16, by rw [indN_ofG Hok.out]; exact Sl.of_owns hown3 (by omega)⟩; have hbx3 := (BX.out.keep hb2).keep hb3; have HG3 := Lib.hid ((HG.out.below hb2).below hb3); have HS3 := Lib.hid ((HS.out.below hb2).below hb3); have HT3 := Lib.hid ((HT.out.keep hb2).keep hb3); have HB3 := Lib.hid ((hbA.out.trans (hb2.mono hbA.out.size)).trans (hb3.mono (Nat.le_trans hbA.out.size hb2.size))); have BX3 := Lib.hid hbx3; clear hown3 hb2 hb3 hbx3 hbx))
  go_loopw [22] (fun iv wr => ∃ i : Nat, i ≤ S.length ∧ iv = .int .i64 i ∧ Hid (BrTo g S i) ∧ Below w3.heap.size w3 wr) (fun iv _ => S.length - (intOf iv).toNat)
  case atStart => exact ⟨0, Nat.zero_le _, rfl, Lib.hid (fun a ha => absurd ha (Nat.not_lt_zero _)), Below.refl _ _⟩
  case round =>
    obtain ⟨i, hi, rfl, HTO, hb⟩ := hrel
    have HB := Lib.hid hb
    by_cases hlt : i < S.length
    · obtain ⟨sb, so, rp, rc, rfl, hce, hne⟩ := (HS3.out.below hb).get (k := i) hlt
      replace hce : wr.cell? ⟨sb, so + i, none⟩ = some (.slice rp (row S i).length rc) := hce
      replace hne : Nums wr 2 .i64 (.slice rp (row S i).length rc) (row S i) := hne
      have HNI := Lib.hid hne
      have hbx := (BX3.out.keep hb).cell
      clear hne
      generalize (row S i).length = rl at hce HNI
      by_cases hcn : ConnS g (row S i)
      · have hdc := Lib.hid (dec_true hcn)
        have HCN := Lib.hid hcn
        have HRI : Hid (∀ x ∈ row S i, 0 ≤ x ∧ x < 16) := Lib.hid (fun x hx => by have := hcn.1.2.1 x hx; omega)
        clear hcn hb
        have hil : (i : Int) ≤ (sc : Int) := by omega
        go_wp2_with (go_at_call 105; refine (implConnectedIn_any _ _ g (row S i) hgl _ (HG3.out.below HB.out) HNI.out (HT3.out.keep HB.out)).mono ?_; rintro e w4 ⟨he4, hb4⟩; rw [hdc.out] at he4; subst he4; have HB4 := Lib.hid (HB.out.trans (hb4.mono HB.out.size)); have HNI4 := Lib.hid (HNI.out.below hb4); clear hb4)
        go_loopw [35] (fun kv wr => ∃ k : Nat, k ≤ i ∧ kv = .int .i64 k ∧ Hid (∀ b, b < k → TouchP g (row S b) (row S i)) ∧ Below w4.heap.size w4 wr) (fun kv _ => i - (intOf kv).toNat)
        case atStart => exact ⟨0, Nat.zero_le _, rfl, Lib.hid (fun b hb => absurd hb (Nat.not_lt_zero _)), Below.refl _ _⟩
        case round =>
          obtain ⟨k, hk, rfl, HTC, hb⟩ := hrel
          have HBK := Lib.hid (HB4.out.trans (hb.mono HB4.out.size))
          by_cases hltk : k < i
          · obtain ⟨_, _, tp, tc, e, hcf, hnf⟩ := (HS3.out.below HBK.out).get (k := k) (by omega)
            simp only [Option.some.injEq, Addr.mk.injEq, and_true] at e
            obtain ⟨rfl, rfl⟩ := e
            replace hcf : wr.cell? ⟨sb, so + k, none⟩ = some (.slice tp (row S k).length tc) := hcf
            replace hnf : Nums wr 2 .i64 (.slice tp (row S k).length tc) (row S k) := hnf
            have HNK := Lib.hid hnf
            have HNI5 := Lib.hid (HNI4.out.below hb)
            have hck := (HTO.out k hltk).1
            have HRK : Hid (∀ x ∈ row S k, 0 ≤ x ∧ x < 16) := Lib.hid (fun x hx => by have := hck.1.2.1 x hx; omega)
            have hm16 : ∀ j, ConnS g (row S j) → mask (row S j) < 65536 ∧ ∀ t, (mask (row S j)).testBit t = true → t < g.length := fun j hj => by
              have h1 : mask (row S j) < 65536 := mask_lt16 _ fun x hx => by have := hj.1.2.1 x hx; omega
              refine ⟨h1, fun t ht => ?_⟩
              obtain ⟨_, _, h3⟩ := setIn_nats hj.1.2
              have := (mem_left h1).2 ht
              rw [bits_maskS h16 hj.1.2] at this
              exact h3 t this
            obtain ⟨mi, hmi⟩ : ∃ mi, mi = mask (row S i) := ⟨_, rfl⟩
            obtain ⟨mk, hmk⟩ : ∃ mk, mk = mask (row S k) := ⟨_, rfl⟩
            have hi16 := hm16 i HCN.out
            have hk16 := hm16 k hck
            rw [← hmi] at hi16
            rw [← hmk] at hk16
            have HMI := Lib.hid hmi
            have HMK := Lib.hid hmk
            have HI16 := Lib.hid hi16
            have HK16 := Lib.hid hk16
            have HTM : Hid (TouchM (ofG g) mi mk ↔ TouchP g (row S k) (row S i)) := Lib.hid (by rw [hmi, hmk]; exact touch_mask Hok.out hck.1.2 HCN.out.1.2)
            clear hnf hck hm16 hmi hmk hi16 hk16
            generalize (row S k).length = kl at hcf HNK
            have HB5 := Lib.hid hb
            by_cases htc : TouchP g (row S k) (row S i)
            · have hdt := Lib.hid (dec_true (HTM.out.2 htc))
              have HTP := Lib.hid htc
              clear htc hb
              go_wp2_with (first
                | (go_at_call 106; refine (touches_any _ _ _ g.length (ofG g) mi mk rfl rfl HI16.out.1 HK16.out.1 HI16.out.2 HK16.out.2 _ (HX3.out.next HBK.out) (HT3.out.keep HBK.out)).mono ?_; rintro e w6 ⟨he6, hb6⟩; rw [hdt.out] at he6; subst he6)
                | (go_at_call 107; have MI6 := MI5; refine (maskOf_any _ (row S k) HRK.out _ HNK.out).mono ?_; rintro e w5 ⟨he5, hw5⟩; rw [← HMK.out] at he5; subst he5; subst hw5)
                | (go_at_call 107; refine (maskOf_any _ (row S i) HRI.out _ HNI5.out).mono ?_; rintro e w5 ⟨he5, hw5⟩; rw [← HMI.out] at he5; subst he5; subst hw5; have MI5 := HMI))
              go_roundw
              case rel => exact ⟨k + 1, by omega, by go_num, Lib.hid (fun b hb => by
                by_cases e : b < k
                · exact HTC.out b e
                · obtain rfl : b = k := by omega
                  exact HTP.out), HB5.out.trans (hb6.mono HB5.out.size)⟩
              case measure => simp [intOf]; omega
            · have hdt := Lib.hid (dec_false (fun h => htc (HTM.out.1 h)))
              have HNB := Lib.hid (dec_false (show ¬ BrS g S from fun h => htc ((h.2 i hlt).2 k hltk)))
              clear htc hb
              go_wp2_with (first
                | (go_at_call 106; refine (touches_any _ _ _ g.length (ofG g) mi mk rfl rfl HI16.out.1 HK16.out.1 HI16.out.2 HK16.out.2 _ (HX3.out.next HBK.out) (HT3.out.keep HBK.out)).mono ?_; rintro e w6 ⟨he6, hb6⟩; rw [hdt.out] at he6; subst he6)
                | (go_at_call 107; have MI6 := MI5; refine (maskOf_any _ (row S k) HRK.out _ HNK.out).mono ?_; rintro e w5 ⟨he5, hw5⟩; rw [← HMK.out] at he5; subst he5; subst hw5)
                | (go_at_call 107; refine (maskOf_any _ (row S i) HRI.out _ HNI5.out).mono ?_; rintro e w5 ⟨he5, hw5⟩; rw [← HMI.out] at he5; subst he5; subst hw5; have MI5 := HMI))
              go_ret
              exact ⟨by rw [HNB.out]; rfl, HB3.out.trans ((HBK.out.trans (hb6.mono HBK.out.size)).mono HB3.out.size)⟩
          · obtain rfl : k = i := by omega
            have HTC2 := Lib.hid HTC.out
            clear hb
            go_wp2_with fail
            go_roundw
            case rel => exact ⟨k + 1, by omega, by go_num, Lib.hid (brTo_step HTO.out HCN.out HTC2.out), HBK.out⟩
            case measure => simp [intOf]; omega
      · have hdc := Lib.hid (dec_false hcn)
        have HNB := Lib.hid (dec_false (show ¬ BrS g S from fun h => hcn (h.2 i hlt).1))
        clear hcn hb
        go_wp2_with (go_at_call 105; refine (implConnectedIn_any _ _ g (row S i) hgl _ (HG3.out.below HB.out) HNI.out (HT3.out.keep HB.out)).mono ?_; rintro e w4 ⟨he4, hb4⟩; rw [hdc.out] at he4; subst he4)
        go_ret
        exact ⟨by rw [HNB.out]; rfl, HB3.out.trans ((HB.out.trans (hb4.mono HB.out.size)).mono HB3.out.size)⟩
    · obtain rfl : i = S.length := by omega
      have HY := Lib.hid (dec_true (show BrS g S from ⟨⟨Hok.out, h80⟩, HTO.out⟩))
      clear hb
      go_wp2_with fail
      go_ret
      exact ⟨by rw [HY.out]; rfl, HB3.out.trans (HB.out.mono HB3.out.size)⟩

end Go.Proofs.YtihlcmenfopaiaaDoor
