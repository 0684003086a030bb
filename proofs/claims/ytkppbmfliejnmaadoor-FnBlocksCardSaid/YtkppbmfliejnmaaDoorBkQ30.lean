/- Walks: the program's cut vertices, what is between two, bridges. -/
import Derived.Test.YtkppbmfliejnmaaDoorBkQ19
import Derived.Test.YtkppbmfliejnmaaDoorBkQ25
import Derived.Test.YtkppbmfliejnmaaDoorBkQ29
namespace Go.Proofs.YtkppbmfliejnmaaDoor
open Go.RowKit

theorem bits_less {W v : Nat} (hW : W < 65536) (hv : v < 16) : bitsOf (sub W (2 ^ v)) = (bitsOf W).filter fun x => x != v := by
  have hp := pow_lt32 v (by omega)
  refine rising_ext _ _ (bitsOf_rising _) (List.Pairwise.filter _ (bitsOf_rising _)) fun j => ?_
  rw [mem_bitsOf' (sub_lt32 _ _ (by omega)), testBit_sub _ _ (by omega) hp, testBit_pow, List.mem_filter, mem_bitsOf' (by omega)]
  simp only [Bool.and_eq_true, Bool.not_eq_true', decide_eq_false_iff_not, bne_iff_ne]
  exact ⟨fun h => ⟨h.1, fun e => h.2 e.symm⟩, fun h => ⟨h.1, fun e => h.2 e.symm⟩⟩
theorem or_bit (m v i : Nat) : (m ||| 2 ^ v).testBit i = true ↔ m.testBit i = true ∨ i = v := by
  rw [Nat.testBit_or, testBit_pow, Bool.or_eq_true, decide_eq_true_eq]
  exact or_congr_right eq_comm

theorem own_shapeW {w : World} {base n : Nat} {E : TypeId} {v : Value} {xs : List Value} (h : w.ownsRow base E 1 v n xs) : ∃ p c, v = .slice p n c := by
  rcases h.2 with ⟨h1, h0⟩ | ⟨g, cap, cur, h1, _⟩
  · exact ⟨none, 0, by rw [h1, h0]⟩
  · exact ⟨_, _, h1⟩

set_option maxRecDepth 100000 in
set_option maxHeartbeats 4000000 in
theorem cutVertices_any (x : Value) (y : Int) (n : Nat) (E : Nat → Nat → Bool) (W : Nat) (hy : y = W) (hW : W < 65536) (hWn : ∀ i, W.testBit i = true → i < n) (w : World) (hx : NE w x n E) (hT : Tab w) :
    Calls Tryd.prog 173 #[x, .int .u32 y] w fun e w' => ∃ m : Nat, e = .returned (.int .u32 (m : Int)) ∧ m < 65536 ∧ (∀ i, m.testBit i = true ↔ CutV E (bitsOf W) i) ∧ Tab w' ∧ Below w.heap.size w w' := by
  subst hy
  have hle := hx.le
  obtain ⟨xp, xc, rfl⟩ : ∃ p c, x = .slice p n c := by obtain ⟨p, c, e, _⟩ := hx.sl; exact ⟨p, c, e⟩
  obtain ⟨l, hl⟩ : ∃ l, l = bitsOf W := ⟨_, rfl⟩
  obtain ⟨ps, hps⟩ := parts_exB E l.length l (Nat.le_refl _)
  have HX := Lib.hid hx
  have HT := Lib.hid hT
  have HL := Lib.hid hl
  have HPS := Lib.hid hps
  have HIN : Hid (∀ i ∈ l, i < n) := Lib.hid (fun i hi => hWn i ((mem_bitsOf' (by omega)).1 (hl ▸ hi)))
  have hll : l.length ≤ 32 := by rw [hl]; exact bitsOf_length W
  obtain ⟨Q, hQ⟩ : ∃ Q, Q = ps.length := ⟨_, rfl⟩
  have HQ := Lib.hid hQ
  have PO : Hid (∀ wz, NE wz (.slice xp n xc) n E → Tab wz → Calls Tryd.prog 212 #[.slice xp n xc, .int .u32 (W : Int)] wz fun e w' => ∃ p c, e = .returned (.slice p Q c) ∧ Tab w' ∧ Below wz.heap.size wz w') := Lib.hid (fun wz hz ht => by
    refine (partsOf_any _ _ n E W rfl hW hWn wz hz ht).mono ?_
    rintro e w' ⟨ov, qs, rfl, hp, ho, _, _, ht', hb⟩
    obtain rfl := parts_det (hl ▸ hps) hp
    obtain ⟨p, c, rfl⟩ := own_shapeW ho
    exact ⟨p, c, by rw [hQ], ht', hb⟩)
  have PV : Hid (∀ v ∈ l, ∀ R qs, R = qs.length → Parts E (l.filter fun x => x != v) qs → ∀ (t : Int), t = ((2 ^ v : Nat) : Int) → ∀ wz, NE wz (.slice xp n xc) n E → Tab wz → Calls Tryd.prog 212 #[.slice xp n xc, .int .u32 (bits BinOp.andNot IntKind.u32 (W : Int) t)] wz fun e w' => ∃ p c, e = .returned (.slice p R c) ∧ Tab w' ∧ Below wz.heap.size wz w') := Lib.hid (fun v hv R qs hR hq t ht wz hz htb => by
    subst ht
    have hv16 : v < 16 := by have := HIN.out v hv; omega
    have h1 : bits BinOp.andNot IntKind.u32 (W : Int) ((2 ^ v : Nat) : Int) = ((sub W (2 ^ v) : Nat) : Int) := u32_andNot_nat W (2 ^ v) (by omega) (pow_lt32 v (by omega))
    refine (partsOf_any _ _ n E (sub W (2 ^ v)) h1 (sub_lt16 _ _ hW) (fun i hi => ?_) wz hz htb).mono ?_
    · rw [testBit_sub _ _ (by omega) (pow_lt32 v (by omega))] at hi
      simp only [Bool.and_eq_true] at hi
      exact hWn i hi.1
    · rintro e w' ⟨ov, rs, rfl, hp, ho, _, _, ht', hb⟩
      rw [bits_less hW hv16, ← hl] at hp
      obtain rfl := parts_det hq hp
      obtain ⟨p, c, rfl⟩ := own_shapeW ho
      exact ⟨p, c, by rw [hR], ht', hb⟩)
  have LIST : Hid (∀ (w : World), Tab w → Calls Tryd.prog 180 #[.int .u32 (W : Int)] w fun e w' => ∃ v, e = .returned v ∧ w'.ownsRow w.heap.size 3 1 v l.length ((natInts l).map (Value.int .i64)) ∧ Below w.heap.size w w') := Lib.hid (fun w hT => by
    have := list_any _ W rfl (by omega) w hT
    rw [← hl] at this
    exact this)
  clear hx hT hl hps hWn hQ
  go_enter Tryd.func173, Tryd.ntmps173
  go_wp2_with (first
    | (go_at_call 212; refine (PO.out _ HX.out HT.out).mono ?_; rintro e w2 ⟨pp, pc, rfl, ht2, hb2⟩; have HT2 := Lib.hid ht2; have HB2 := Lib.hid hb2; clear ht2 hb2)
    | (go_at_call 180; refine (LIST.out _ HT2.out).mono ?_; rintro e w3 ⟨lv, rfl, hown2, hb3⟩; have HNL := Lib.hid (Nums.of_owns hown2 (natInts_length _).symm (by omega)); obtain ⟨lp, lc, rfl, _⟩ := id HNL.out; have HB3 := Lib.hid (HB2.out.trans (hb3.mono HB2.out.size)); have HT3 := Lib.hid (HT2.out.keep hb3); clear hown2 hb3))
  have hnll := natInts_length l
  rw [hnll] at HNL ⊢
  go_loopw [5, 16] (fun mv i wr => ∃ (k m : Nat), k ≤ l.length ∧ i = .int .i64 (k : Int) ∧ mv = .int .u32 (m : Int) ∧ m < 65536 ∧ Hid (∀ i, m.testBit i = true ↔ i ∈ l.take k ∧ CutV E l i) ∧ Tab wr ∧ Below w3.heap.size w3 wr) (fun _ i _ => l.length - (intOf i).toNat)
  case atStart => exact ⟨0, 0, Nat.zero_le _, rfl, rfl, by omega, Lib.hid (fun i => by simp), HT3.out, Below.refl _ _⟩
  case round =>
    obtain ⟨k, m, hk, rfl, rfl, hm, HM, ht, hb⟩ := hrel
    have HTr := Lib.hid ht
    have HB := Lib.hid hb
    have HXr := Lib.hid (HX.out.next (HB3.out.trans (hb.mono HB3.out.size)))
    by_cases hlt : k < l.length
    · obtain ⟨v, hv⟩ : ∃ v, v = l[k] := ⟨_, rfl⟩
      have hvl : v ∈ l := by rw [hv]; exact List.getElem_mem hlt
      have hvn := HIN.out v hvl
      have HTK : Hid (l.take (k + 1) = l.take k ++ [v]) := Lib.hid (by rw [hv]; exact take_snoc' l k hlt)
      obtain ⟨qs, hqs⟩ := parts_exB E _ (l.filter fun x => x != v) (Nat.le_refl _)
      have HC : Hid (CutV E l v ↔ ps.length < qs.length) := Lib.hid ⟨fun ⟨_, ps', qs', h1, h2, h3⟩ => by rw [parts_det HPS.out h1, parts_det hqs h2]; exact h3, fun h => ⟨hvl, ps, qs, HPS.out, hqs, h⟩⟩
      obtain ⟨eb, eo, hep, hce⟩ := (HNL.out.below hb).get (k := k) (by rw [natInts_length]; exact hlt)
      subst hep
      have e1 : (natInts l)[k]'(by rw [natInts_length]; exact hlt) = (v : Int) := by rw [hv]; simp [natInts]
      rw [e1] at hce
      obtain ⟨pv, hpv⟩ : ∃ pv, pv = 2 ^ v := ⟨_, rfl⟩
      obtain ⟨R, hR⟩ : ∃ R, R = qs.length := ⟨_, rfl⟩
      have hp16 : pv < 65536 := by rw [hpv]; exact pow_lt16 v (by omega)
      have C1 : Hid (∀ w, Calls Tryd.prog 156 #[.int .i64 (v : Int)] w fun e w' => e = .returned (.int .u32 (pv : Int)) ∧ w = w') := Lib.hid (by rw [hpv]; exact fun w => one_any (v : Int) v rfl (by omega) w)
      have PVv := Lib.hid (PV.out v hvl R qs hR hqs (pv : Int) (by rw [hpv]))
      have HOR : Hid (∀ i, (m ||| pv).testBit i = true ↔ m.testBit i = true ∨ i = v) := Lib.hid (fun i => by rw [hpv]; exact or_bit m v i)
      have hor := or_u32 m pv hm hp16
      have hor16 := or_lt16 m pv hm hp16
      have HQR : Hid (CutV E l v ↔ Q < R) := Lib.hid (by rw [HQ.out, hR]; exact HC.out)
      have HM2 : Hid (∀ i, i ∈ l.take (k + 1) ∧ CutV E l i ↔ (i ∈ l.take k ∧ CutV E l i) ∨ (i = v ∧ CutV E l v)) := Lib.hid (fun i => by
        rw [HTK.out, List.mem_append, List.mem_singleton]
        constructor
        · rintro ⟨h1 | rfl, h2⟩
          · exact .inl ⟨h1, h2⟩
          · exact .inr ⟨rfl, h2⟩
        · rintro (⟨h1, h2⟩ | ⟨rfl, h2⟩)
          · exact ⟨.inl h1, h2⟩
          · exact ⟨.inr rfl, h2⟩)
      clear ht hb hv e1 hpv hR hqs HC hvl
      by_cases hgt : Q < R
      · have hgt' : (R : Int) > (Q : Int) := by omega
        have HGT := Lib.hid hgt
        have HPP : Hid (∀ i, (m ||| pv).testBit i = true ↔ i ∈ l.take (k + 1) ∧ CutV E l i) := Lib.hid (fun i => by
          rw [HOR.out, HM2.out, HM.out]
          exact or_congr_right ⟨fun h => ⟨h, HQR.out.2 hgt⟩, fun h => h.1⟩)
        clear hgt
        go_wp2_with (first
          | (go_at_call 156; refine (C1.out _).mono ?_; rintro e wa ⟨rfl, rfl⟩)
          | (go_at_call 212; refine (PVv.out _ HXr.out HTr.out).mono ?_; rintro e wb ⟨qp, qc, rfl, htb, hbb⟩; have HTB := Lib.hid htb; have HBB := Lib.hid hbb; clear htb hbb))
        go_roundw
        case rel => exact ⟨k + 1, m ||| pv, by omega, by go_num, by first | exact val_int hor | rfl, hor16, HPP, HTB.out, HB.out.trans (HBB.out.mono HB.out.size)⟩
        case measure => simp [intOf]; omega
      · have hgt' : ¬ (R : Int) > (Q : Int) := by omega
        have HPP : Hid (∀ i, m.testBit i = true ↔ i ∈ l.take (k + 1) ∧ CutV E l i) := Lib.hid (fun i => by
          rw [HM2.out, HM.out]
          exact ⟨.inl, fun h => h.elim id fun h => absurd (HQR.out.1 h.2) hgt⟩)
        clear hgt
        go_wp2_with (first
          | (go_at_call 156; refine (C1.out _).mono ?_; rintro e wa ⟨rfl, rfl⟩)
          | (go_at_call 212; refine (PVv.out _ HXr.out HTr.out).mono ?_; rintro e wb ⟨qp, qc, rfl, htb, hbb⟩; have HTB := Lib.hid htb; have HBB := Lib.hid hbb; clear htb hbb))
        go_roundw
        case rel => exact ⟨k + 1, m, by omega, by go_num, rfl, hm, HPP, HTB.out, HB.out.trans (HBB.out.mono HB.out.size)⟩
        case measure => simp [intOf]; omega
    · obtain rfl : k = l.length := by omega
      rw [List.take_length] at HM
      clear ht hb
      go_wp2_with fail
      go_ret
      exact ⟨m, rfl, hm, fun i => (HM.out i).trans ⟨fun h => by rw [← HL.out]; exact h.2, fun h => by rw [← HL.out] at h; exact ⟨h.1, h⟩⟩, HTr.out, HB3.out.trans (HB.out.mono HB3.out.size)⟩

theorem neOf {g : List (List Int)} (hok : GOk g) {w : World} {base : Nat} {x : Value} (h : w.ownsRow base 70 1 x g.length ((netL g).map u32v)) : NE w x g.length (ofG g) :=
  ⟨hok.le, by rw [indN_ofG hok]; exact Sl.of_owns h (by have := hok.le; omega)⟩

set_option maxRecDepth 100000 in
set_option maxHeartbeats 2000000 in
theorem implCutVertices_any (v : Value) (g : List (List Int)) (hok : GOk g) (w : World) (hg : Gr w v g) (hT : Tab w) :
    Calls Tryd.prog 79 #[v] w fun e w' => ∃ (ov : Value) (L : List Nat), e = .returned ov ∧ Nums w' 2 .i64 ov (natInts L) ∧ L.length ≤ 32 ∧ L.Pairwise (· < ·) ∧ (∀ i, i ∈ L ↔ CutV (ofG g) (List.range g.length) i) ∧ Below w.heap.size w w' := by
  have hg0 := hg
  obtain ⟨u, rfl, hr⟩ := hg
  obtain ⟨p, c, rfl, _⟩ := hr.shape
  have hbA := Lib.hid (below_alloc w (.cells #[.slice p g.length c] 29))
  have HG := Lib.hid (hg0.below hbA.out)
  have BX := Lib.hid (Box.new w (.slice p g.length c) 29)
  have HD := Lib.hid (dec_true hok)
  have HT := Lib.hid (hT.keep hbA.out)
  have h16 := hok.le
  have HOK := Lib.hid hok
  obtain ⟨al, hal⟩ : ∃ al, al = 2 ^ g.length - 1 := ⟨_, rfl⟩
  obtain ⟨hal16, haln, _⟩ := all_lt h16 hal
  have HAB := Lib.hid (bits_all h16 hal)
  have HALN := Lib.hid haln
  have CALL : Hid (∀ (p : Option Addr) (c : Nat) w, Calls Tryd.prog 106 #[.slice p g.length c] w fun e w' => e = .returned (.int .u32 (al : Int)) ∧ w = w') := Lib.hid (by rw [hal]; exact fun p c w => all_any p g.length c (by omega) w)
  clear hr hg0 hok hT hal haln
  go_enter Tryd.func79, Tryd.ntmps79
  go_wp2_with (first
    | (go_at_call 87; refine (implGraphOk_any _ g _ HG.out).mono ?_; rintro e w2 ⟨he, hb2⟩; rw [HD.out] at he; subst he; have hbx := (BX.out.keep hb2).cell)
    | (go_at_call 89; refine (netsOf_any _ g _ (HG.out.below hb2) HOK.out).mono ?_; rintro e w3 ⟨x, rfl, hown3, hb3⟩; have HX3 := Lib.hid (neOf HOK.out hown3); obtain ⟨xp, xc, rfl⟩ := own_shapeW hown3; clear hown3)
    | (go_at_call 106; refine (CALL.out _ _ _).mono ?_; rintro e wa ⟨rfl, rfl⟩)
    | (go_at_call 173; refine (cutVertices_any _ _ g.length (ofG g) al rfl hal16 HALN.out _ HX3.out ((HT.out.keep hb2).keep hb3)).mono ?_; rintro e w4 ⟨m, rfl, hm, hmb, ht4, hb4⟩; have HM := Lib.hid hmb; have HT4 := Lib.hid ht4; clear hmb ht4)
    | (go_at_call 90; refine (numbers_any _ m rfl (by omega) _ HT4.out).mono ?_; rintro e w5 ⟨ov, rfl, ho, hb5⟩))
  go_ret
  have hl := bitsOf_length m
  refine ⟨_, bitsOf m, rfl, Nums.of_owns ho (natInts_length _).symm (by omega), hl, bitsOf_rising m, fun i => ?_, ?_⟩
  · rw [mem_bitsOf' (by omega), HM.out, HAB.out]
  · have s2 := hb2.size
    have s3 := hb3.size
    have s4 := hb4.size
    have s0 := hbA.out.size
    exact (((hbA.out.trans (hb2.mono s0)).trans (hb3.mono (by omega))).trans (hb4.mono (by omega))).trans (hb5.mono (by omega))

end Go.Proofs.YtkppbmfliejnmaaDoor
