/- Walk: the vertices of a node's tree, by the reference. -/
import Derived.Test.YtfphapcgjlhieaaDoorGtQ16
import Derived.Test.YtfphapcgjlhieaaDoorGtQ19
import Derived.Test.YtfphapcgjlhieaaDoorGtQ12
import Derived.Deep.DeepCutAuto
namespace Go.Proofs.YtfphapcgjlhieaaDoor
open Go.RowKit

theorem into_bitsTe {a x : Nat} (ha : a < 65536) (hx : x < 16) : intoL (natInts (bitsOf a)) (x : Int) = natInts (bitsOf (a ||| 2 ^ x)) := by
  have h1 := or_lt16 a (2 ^ x) ha (pow_lt16 x hx)
  refine rising_ext_int _ _ (intoL_rising (natInts_rising (bitsOf_rising _))) (natInts_rising (bitsOf_rising _)) fun y => ?_
  rw [mem_intoL, mem_natInts, mem_natInts]
  constructor
  · rintro (⟨i, hi, rfl⟩ | rfl)
    · exact ⟨i, (mem_bitsOf' (by omega)).2 (by rw [Nat.testBit_or, (mem_bitsOf' (by omega)).1 hi]; rfl), rfl⟩
    · exact ⟨x, (mem_bitsOf' (by omega)).2 (by rw [Nat.testBit_or, Nat.testBit_two_pow]; simp), rfl⟩
  · rintro ⟨i, hi, rfl⟩
    have hb := (mem_bitsOf' (by omega)).1 hi
    rw [Nat.testBit_or, Bool.or_eq_true, Nat.testBit_two_pow, decide_eq_true_iff] at hb
    rcases hb with h | h
    · exact .inl ⟨i, (mem_bitsOf' (by omega)).2 h, rfl⟩
    · exact .inr (by rw [h])
theorem Nums.oneTe (w : World) (x : Int) : Nums (w.alloc (.cells #[.int .i64 x] 2)) 2 .i64 (.slice (some ⟨w.heap.size, 0, none⟩) 1 1) [x] :=
  ⟨_, 1, rfl, (fun e => by cases e), Nat.le_refl _, by show 1 ≤ 1000000000; omega, .inr ⟨w.heap.size, 0, #[.int .i64 x], (0, 0), rfl, heap_alloc_new w _, fun j u hu => by
    match j, hu with
    | 0, hu => simpa using hu
    | j + 1, hu => simp at hu⟩⟩
theorem mask_selfTe {m : Nat} (h : m < 65536) : mask (natInts (bitsOf m)) = m := Nat.eq_of_testBit_eq fun j => by
  have h2 : (mask (natInts (bitsOf m))).testBit j = decide (j ∈ bitsOf m) := by
    rw [testBit_mask, Bool.eq_iff_iff]
    simp [natInts]
  rw [h2, Bool.eq_iff_iff, decide_eq_true_iff, mem_bitsOf' (by omega)]
theorem natInts_getTe {l : List Nat} {j : Nat} (h : j < (natInts l).length) : (natInts l)[j] = ((l[j]'(by rwa [natInts_length] at h) : Nat) : Int) := by simp [natInts]

set_option maxRecDepth 100000 in
set_option maxHeartbeats 4000000 in
theorem l16Has_any (vp : Option Addr) (vc : Nat) (ts : List Pt) : ∀ (f x : Nat), x < f → x < ts.length → (∀ j, j ≤ x → GoodN ts j) → ∀ (w : World), Trs w (.slice vp ts.length vc) ts →
    Calls Tryd.prog 112 #[.slice vp ts.length vc, .int .i64 x] w fun e w' => ∃ u, e = .returned u ∧ Nums w' 2 .i64 u (natInts (bitsOf ((mskT ts).getD x 0))) ∧ Below w.heap.size w w'
  | 0, x, h, _, _ => absurd h (Nat.not_lt_zero _)
  | f + 1, x, hx, hxl, hgood => fun w htr => by
    have IH := Lib.hid (fun y (hy : y < f) => l16Has_any vp vc ts f y hy)
    have HTR := Lib.hid htr
    have HGD := Lib.hid hgood
    obtain ⟨⟨pk, pv, ps⟩, hp, hh⟩ := mskT_good (hgood x (Nat.le_refl _))
    obtain ⟨b, o, rp, rc, rfl, c0, c1, c2, hkn, hkl⟩ := htr.at hp
    have HKN := Lib.hid hkn
    have hmk := msk_ok (ts := ts) (x + 1) (fun j hj => hgood j (by omega))
    have HMK := Lib.hid hmk
    have hlen : ts.length ≤ 1000000000 := by obtain ⟨_, _, _, h⟩ := htr.shape; exact h
    simp only at c0 c1 c2 hkl
    clear hkn htr hgood
    have hxi : ((x : Nat) : Int) < (ts.length : Int) := by omega
    rcases hh with ⟨hl, hm⟩ | ⟨hi, hk, hm⟩
    · obtain ⟨hk1, hv0, hv1, hs⟩ := hl
      simp only at hk1 hv0 hv1 hs hm
      subst hk1
      subst hs
      obtain ⟨v, rfl⟩ : ∃ v : Nat, pv = (v : Int) := ⟨pv.toNat, by omega⟩
      have HM : Hid (natInts (bitsOf ((mskT ts).getD x 0)) = [(v : Int)]) := Lib.hid (by rw [hm, Int.toNat_natCast, bits_pow (by omega)]; rfl)
      clear hm hmk hp hv0 hv1
      go_enter Tryd.func112, Tryd.ntmps112
      go_wp2
      go_ret
      have h := Nums.oneTe w (v : Int)
      rw [← HM.out] at h
      exact ⟨_, rfl, h, below_alloc _ _⟩
    have hk1 : (pk == 1) = false := by
      have := hi.1
      simp only at this
      simp
      omega
    have HI := Lib.hid hi
    have HK := Lib.hid hk
    simp only at hm hk
    have HM := Lib.hid hm
    clear hp hi hm hmk hk
    go_enter Tryd.func112, Tryd.ntmps112
    go_wp2
    go_loopw [5, 6] (fun ov i wr => ∃ k : Nat, k ≤ ps.length ∧ i = .int .i64 k ∧ Nums wr 2 .i64 ov (natInts (bitsOf (orM (mskT ts) (ps.take k)))) ∧ Below w.heap.size w wr) (fun _ i _ => ps.length - (intOf i).toNat)
    case atStart => exact ⟨0, Nat.zero_le _, rfl, by rw [List.take_zero]; show Nums _ _ _ _ (natInts (bitsOf 0)); rw [bitsOf_zero]; exact Nums.of_owns (ownsRow_empty w _ 1) rfl (by decide), below_alloc _ _⟩
    case round =>
      obtain ⟨k, hkl2, rfl, hnum, hbel⟩ := hrel
      have HB := Lib.hid hbel
      have HNU := Lib.hid hnum
      have hlt16 : orM (mskT ts) (ps.take k) < 65536 := orM_lt fun y hy => by
        have := HK.out y (List.mem_of_mem_take hy)
        exact (HMK.out y.toNat (by omega)).1
      obtain ⟨op, oc, rfl, hol⟩ := hnum.shapeT
      have c0r := hbel.at' c0
      have c2r := hbel.at' c2
      clear hnum
      by_cases hlt : k < ps.length
      · obtain ⟨kb, ko, e, hck⟩ : ∃ b o, rp = some ⟨b, o, none⟩ ∧ wr.cell? ⟨b, o + k, none⟩ = some (.int .i64 ps[k]) := by
          obtain ⟨p', c', e, _, _, _, hat⟩ := HKN.out.below hbel
          cases e
          exact hat.num hlt
        subst e
        have hy := HK.out ps[k] (List.getElem_mem _)
        obtain ⟨y, hye⟩ : ∃ y : Nat, ps[k] = (y : Int) := ⟨ps[k].toNat, by omega⟩
        have HY := Lib.hid hye
        rw [hye] at hck hy
        have hyf : y < f := by omega
        have hyl : y < ts.length := by omega
        have HGY : Hid (∀ j, j ≤ y → GoodN ts j) := Lib.hid fun j hj => HGD.out j (by omega)
        have hy16 := (HMK.out y (by omega)).1
        obtain ⟨m, hm⟩ : ∃ m, (mskT ts).getD y 0 = m := ⟨_, rfl⟩
        rw [hm] at hy16
        have HMY := Lib.hid hm
        obtain ⟨a, ha⟩ : ∃ a, orM (mskT ts) (ps.take k) = a := ⟨_, rfl⟩
        have HA := Lib.hid ha
        rw [ha] at hlt16 HNU ⊢
        have hbl := bitsOf_length m
        clear hm hye hbel ha
        have hm32 : m < 4294967296 := by omega
        go_wp2_with (go_at_call 112; refine (IH.out y hyf hyl HGY.out _ (HTR.out.below HB.out)).mono ?_; rintro e w2 ⟨lv, rfl, hnl, hb2⟩; rw [HMY.out] at hnl; obtain ⟨lp, lc, rfl, _⟩ := hnl.shapeT; rw [natInts_length])
        have HNL := Lib.hid hnl
        have HB2 := Lib.hid hb2
        obtain ⟨wo, rfl⟩ : ∃ wo, wo = wr := ⟨_, rfl⟩
        have HN2 := Lib.hid (HNU.out.below hb2)
        clear hnl hb2
        go_loopw [5, 8] (fun ov i wr => ∃ q : Nat, q ≤ (bitsOf m).length ∧ i = .int .i64 q ∧ Nums wr 2 .i64 ov (natInts (bitsOf (a ||| mask (natInts ((bitsOf m).take q))))) ∧ Below w2.heap.size w2 wr) (fun _ i _ => (bitsOf m).length - (intOf i).toNat)
        case atStart =>
          refine ⟨0, Nat.zero_le _, rfl, ?_, Below.refl _ _⟩
          rw [List.take_zero, show mask (natInts []) = 0 from rfl, Nat.or_zero]
          exact HN2.out
        case round =>
          obtain ⟨q, hq, rfl, hnq, hbq⟩ := hrel
          obtain ⟨a', ha'⟩ : ∃ a', a ||| mask (natInts ((bitsOf m).take q)) = a' := ⟨_, rfl⟩
          have HA' := Lib.hid ha'
          have hmq : mask (natInts ((bitsOf m).take q)) < 65536 := mask_lt16 _ fun x hx => by
            obtain ⟨i, hi, rfl⟩ := mem_natInts.1 hx
            have := bitsOf_lt16 hy16 (List.mem_of_mem_take hi)
            omega
          have ha16 : a' < 65536 := by rw [← ha']; exact or_lt16 _ _ hlt16 hmq
          rw [ha'] at hnq
          have HBQ := Lib.hid hbq
          obtain ⟨qp, qc, rfl, hql⟩ := hnq.shapeT
          obtain ⟨nq, hnqe⟩ : ∃ nq, (natInts (bitsOf a')).length = nq := ⟨_, rfl⟩
          have hal := bitsOf_length a'
          rw [← natInts_length, hnqe] at hal
          rw [hnqe] at hnq hql ⊢
          have HLE : Hid ((natInts (bitsOf a')).length ≤ 100000000) := Lib.hid (by rw [hnqe]; omega)
          have HNQ := Lib.hid hnq
          clear hnqe
          clear ha' hnq
          by_cases hqlt : q < (bitsOf m).length
          · obtain ⟨qb, qo, e, hcq⟩ : ∃ b o, lp = some ⟨b, o, none⟩ ∧ wr.cell? ⟨b, o + q, none⟩ = some (.int .i64 ((bitsOf m)[q] : Nat)) := by
              obtain ⟨p', c', e, _, _, _, hat⟩ := HNL.out.below hbq
              cases e
              obtain ⟨b', o', h1, h2⟩ := hat.num (k := q) (by rw [natInts_length]; exact hqlt)
              rw [natInts_getTe] at h2
              exact ⟨b', o', h1, h2⟩
            subst e
            have hx16 := bitsOf_lt16 hy16 (List.getElem_mem hqlt)
            obtain ⟨z, hz⟩ : ∃ z, (bitsOf m)[q] = z := ⟨_, rfl⟩
            have HZ := Lib.hid hz
            rw [hz] at hcq hx16
            clear hz hbq
            go_wp2_with (go_at_call 113; refine (l1Into_any (.slice qp nq qc) (natInts (bitsOf a')) (z : Int) HLE.out _ HNQ.out).mono ?_; rintro e w4 ⟨u4, rfl, hn4, hb4⟩)
            go_roundw
            case rel =>
              refine ⟨q + 1, by omega, by go_num, ?_, HBQ.out.trans (hb4.mono HBQ.out.size)⟩
              rw [into_bitsTe ha16 hx16, ← HA'.out] at hn4
              have e1 : mask (natInts ((bitsOf m).take (q + 1))) = mask (natInts ((bitsOf m).take q)) ||| 2 ^ z := by
                rw [List.take_succ_eq_append_getElem hqlt, HZ.out]
                show mask (List.map _ _) = _
                rw [List.map_append]
                show mask (natInts _ ++ [(z : Int)]) = _
                rw [mask_snoc, Int.toNat_natCast]
              rw [e1, ← Nat.or_assoc]
              exact hn4
            case measure => simp [intOf]; omega
          · obtain rfl : q = (bitsOf m).length := by omega
            clear hbq
            go_wp2
            go_roundw
            case rel =>
              refine ⟨k + 1, by omega, by go_num, ?_, HB.out.trans ((HB2.out.trans (HBQ.out.mono HB2.out.size)).mono HB.out.size)⟩
              rw [List.take_succ_eq_append_getElem hlt, orM_snoc, HY.out, Int.toNat_natCast, HMY.out, HA.out]
              have h := HNQ.out
              rw [← HA'.out, List.take_length, mask_selfTe hy16] at h
              exact h
            case measure => simp [intOf]; omega
      · obtain rfl : k = ps.length := by omega
        go_wp2
        go_ret
        have h2 : natInts (bitsOf (orM (mskT ts) (ps.take ps.length))) = natInts (bitsOf ((mskT ts).getD x 0)) := by rw [List.take_length, HM.out]
        exact ⟨_, rfl, Eq.subst (motive := fun l => Nums wr 2 .i64 (.slice op (natInts (bitsOf (orM (mskT ts) (ps.take ps.length)))).length oc) l) h2 HNU.out, HB.out⟩

end Go.Proofs.YtfphapcgjlhieaaDoor
