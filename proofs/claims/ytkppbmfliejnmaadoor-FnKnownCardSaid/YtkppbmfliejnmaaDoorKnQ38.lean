/- Walks: the graph of pairs, the program's and the reference's. -/
import Derived.Test.YtkppbmfliejnmaaDoorKnQ37
import Derived.Test.YtkppbmfliejnmaaDoorKnQ30
import Derived.Test.YtkppbmfliejnmaaDoorKnQ18
namespace Go.Proofs.YtkppbmfliejnmaaDoor
open Go.RowKit

/-- The masks of pairs. -/
def pairM (p : Nat × Nat) : Nat := 2 ^ p.1 ||| 2 ^ p.2
def maskP (l : List (Nat × Nat)) : List Nat := l.map pairM
theorem maskP_snoc (l : List (Nat × Nat)) (p : Nat × Nat) : maskP (l ++ [p]) = maskP l ++ [pairM p] := by simp [maskP]
theorem pairM_and {p q : Nat × Nat} : pairM p &&& pairM q = 0 ↔ offK p q = true := by
  unfold pairM offK
  simp only [Bool.and_eq_true, bne_iff_ne]
  constructor
  · intro h
    have key : ∀ i, ((p.1 = i ∨ p.2 = i) ∧ (q.1 = i ∨ q.2 = i)) → False := fun i hi => by
      have : (((2 ^ p.1 ||| 2 ^ p.2) &&& (2 ^ q.1 ||| 2 ^ q.2)).testBit i) = true := by
        rw [Nat.testBit_and, Nat.testBit_or, Nat.testBit_or, testBit_pow, testBit_pow, testBit_pow, testBit_pow]
        simp only [Bool.and_eq_true, Bool.or_eq_true, decide_eq_true_eq]
        exact hi
      rw [h] at this
      simp at this
    exact ⟨⟨⟨fun e => key p.1 ⟨.inl rfl, .inl e.symm⟩, fun e => key p.1 ⟨.inl rfl, .inr e.symm⟩⟩, fun e => key p.2 ⟨.inr rfl, .inl e.symm⟩⟩, fun e => key p.2 ⟨.inr rfl, .inr e.symm⟩⟩
  · rintro ⟨⟨⟨h1, h2⟩, h3⟩, h4⟩
    refine Nat.eq_of_testBit_eq fun i => ?_
    rw [Nat.testBit_and, Nat.testBit_or, Nat.testBit_or, testBit_pow, testBit_pow, testBit_pow, testBit_pow, Nat.zero_testBit]
    rw [Bool.eq_false_iff]
    intro h
    simp only [Bool.and_eq_true, Bool.or_eq_true, decide_eq_true_eq] at h
    omega
theorem pairM_lt {p : Nat × Nat} (h1 : p.1 < 16) (h2 : p.2 < 16) : pairM p < 65536 := or_lt16 _ _ (pow_lt16 _ h1) (pow_lt16 _ h2)
theorem knE_at {n i k : Nat} (hi : i < (pairsK n).length) (hk : k < (pairsK n).length) : knE n i k = offK (pairsK n)[i] (pairsK n)[k] := by
  unfold knE
  simp [hi, hk]
def KnOk (n : Int) : Prop := 4 ≤ n ∧ n ≤ 6
theorem pairsU_len (v u : Nat) : (pairsU v u).length = u := by simp [pairsU]
theorem pairsK_le {n v : Nat} (h : v ≤ n) : (pairsK v).length ≤ n * n := by
  induction v with
  | zero => exact Nat.zero_le _
  | succ v ih =>
    rw [pairsK_succ, List.length_append, pairsU_len]
    have h2 : ∀ v, (pairsK v).length ≤ v * v := fun v => by
      induction v with
      | zero => exact Nat.zero_le _
      | succ v ih => rw [pairsK_succ, List.length_append, pairsU_len, Nat.succ_mul_succ]; omega
    have h3 := h2 v
    have h4 : (v + 1) * (v + 1) ≤ n * n := Nat.mul_le_mul h h
    rw [Nat.succ_mul_succ] at h4
    omega

theorem own_shapeK {w : World} {base n : Nat} {E : TypeId} {v : Value} {xs : List Value} (h : w.ownsRow base E 1 v n xs) : ∃ p c, v = .slice p n c := by
  rcases h.2 with ⟨h1, h0⟩ | ⟨g, cap, cur, h1, _⟩
  · exact ⟨none, 0, by rw [h1, h0]⟩
  · exact ⟨_, _, h1⟩

set_option maxRecDepth 100000 in
set_option maxHeartbeats 4000000 in
theorem implKneser_no (n : Int) (hno : ¬ KnOk n) (w : World) :
    Calls Tryd.prog 66 #[.int .i64 n] w fun e w' => e = .returned (.tuple #[.agg #[.slice none 0 0], .bool false]) ∧ Below w.heap.size w w' := by
  have HB := Lib.hid (below_alloc w (.cells #[.slice none 0 0] 29))
  have HX := Lib.hid (Box.new w (.slice none 0 0) 29)
  obtain ⟨nc, nf, nl, nB⟩ := id HX.out
  have HD1 := Lib.hid (dec_false (show ¬ (4 ≤ n ∧ n ≤ 6) from hno))
  clear hno
  go_enter Tryd.func66, Tryd.ntmps66
  go_wp2_with (go_at_call 137; refine (inRange_any _ _ _ _).mono ?_; rintro e w2 ⟨he, rfl⟩; rw [HD1.out] at he; subst he)
  exact bodyPost_ret (v := .tuple #[.agg #[.slice none 0 0], .bool false]) (by simp [results, Tryd.results66, go_sem, nc]) rfl ⟨rfl, by first | exact HB.out | exact HB.out.setCell (by show w.heap.size ≤ w.heap.size; omega) _⟩

set_option maxRecDepth 100000 in
set_option maxHeartbeats 8000000 in
theorem implKneser_yes (n m : Nat) (hn1 : 4 ≤ n) (hn6 : n ≤ 6) (hm : (pairsK n).length = m) (hm1 : 1 ≤ m) (hm16 : m ≤ 16) (w : World) (hT : Tab w) :
    Calls Tryd.prog 66 #[.int .i64 (n : Int)] w fun e w' => ∃ (p : Option Addr) (c : Nat), e = .returned (.tuple #[.agg #[.slice p m c], .bool true]) ∧ DG w' w.heap.size (.agg #[.slice p m c]) (matG m (knE n)) ∧ Below w.heap.size w w' := by
  obtain ⟨w1, hw1⟩ : ∃ w1, w1 = w.alloc (.cells #[.slice none 0 0] 29) := ⟨_, rfl⟩
  have HR : Hid (Box w1 w.heap.size 29 (.slice none 0 0)) := Lib.hid (by rw [hw1]; exact Box.new _ _ _)
  have HB : Hid (Below w.heap.size w w1) := Lib.hid (by rw [hw1]; exact below_alloc _ _)
  have HD1 := Lib.hid (dec_true (show (4 : Int) ≤ (n : Int) ∧ (n : Int) ≤ 6 from ⟨by omega, by omega⟩))
  have HT := Lib.hid (hT.keep HB.out)
  have HSL : Hid (∀ E : Nat → Nat → Bool, (indN m E).length = m) := Lib.hid (fun E => indN_length _ E)
  have HE16 : Hid (∀ E : Nat → Nat → Bool, ∀ s ∈ indN m E, s < 65536) := Lib.hid (fun E => indN_lt16 hm16)
  have HPL : Hid (∀ v u, v ≤ n → u ≤ v → (pairsK v ++ pairsU v u).length ≤ 100) := Lib.hid (fun v u hv hu => by
    rw [List.length_append, pairsU_len]
    have h1 := pairsK_le hv
    have h2 : n * n ≤ 6 * 6 := Nat.mul_le_mul hn6 hn6
    omega)
  have HM := Lib.hid hm
  have PM := Lib.hid (fun (i : Nat) (hi : i < (pairsK n).length) => by
    have := pairsK_mem _ (List.getElem_mem hi)
    exact pairM_lt (p := (pairsK n)[i]) (by omega) (by omega))
  clear hT hm
  go_enter Tryd.func66, Tryd.ntmps66
  go_upto_region 1 with fail
  rw [← hw1]
  clear hw1
  have START : Hid ((w1.alloc (.cells #[] 70)).ownsRow w1.heap.size 70 1 (.slice (some ⟨w1.heap.size, 0, none⟩) 0 0) (pairsK 0 ++ pairsU 0 0).length ((maskP (pairsK 0 ++ pairsU 0 0)).map u32v)) := Lib.hid (ownsRow_empty w1 _ 1)
  go_wp2_with (go_at_call 137; refine (inRange_any _ _ _ _).mono ?_; rintro e w2 ⟨he, rfl⟩; rw [HD1.out] at he; subst he)
  go_loopw [4, 18] (fun ov iv wr => ∃ v : Nat, v ≤ n ∧ iv = .int .i64 (v : Int) ∧ wr.ownsRow w1.heap.size 70 1 ov (pairsK v ++ pairsU v 0).length ((maskP (pairsK v ++ pairsU v 0)).map u32v) ∧ Below w1.heap.size w1 wr) (fun _ iv _ => n - (intOf iv).toNat)
  case atStart => exact ⟨0, Nat.zero_le _, rfl, START.out, below_alloc _ _⟩
  case round =>
    clear START
    obtain ⟨v, hv, rfl, hown, hb⟩ := hrel
    have HO := Lib.hid hown
    have HBB := Lib.hid hb
    clear hown hb
    by_cases hlt : v < n
    · have hvi : (v : Int) < (n : Int) := by omega
      obtain ⟨op, oc, rfl⟩ := own_shapeK HO.out
      go_wp2_with fail
      go_loopw [4, 22] (fun ov iv wx => ∃ u : Nat, u ≤ v ∧ iv = .int .i64 (u : Int) ∧ wx.ownsRow w1.heap.size 70 1 ov (pairsK v ++ pairsU v u).length ((maskP (pairsK v ++ pairsU v u)).map u32v) ∧ Below w1.heap.size w1 wx) (fun _ iv _ => v - (intOf iv).toNat)
      case atStart => exact ⟨0, Nat.zero_le _, rfl, HO.out, HBB.out⟩
      case round =>
        clear HO HBB
        obtain ⟨u, hu, rfl, hown, hb⟩ := hrel
        obtain ⟨ln, hln⟩ : ∃ ln, ln = (pairsK v ++ pairsU v u).length := ⟨_, rfl⟩
        have hl100 := HPL.out v u hv hu
        rw [← hln] at hown hl100
        obtain ⟨op, oc, rfl⟩ := own_shapeK hown
        have HLN := Lib.hid hln
        have hsz := hb.size
        have HBB := Lib.hid hb
        clear hb hln
        by_cases hul : u < v
        · have hui : (u : Int) < (v : Int) := by omega
          obtain ⟨pu, hpu⟩ : ∃ pu, pu = 2 ^ u := ⟨_, rfl⟩
          obtain ⟨pv, hpv⟩ : ∃ pv, pv = 2 ^ v := ⟨_, rfl⟩
          have hpu16 : pu < 65536 := by rw [hpu]; exact pow_lt16 u (by omega)
          have hpv16 : pv < 65536 := by rw [hpv]; exact pow_lt16 v (by omega)
          have CU : Hid (∀ w, Calls Tryd.prog 156 #[.int .i64 (u : Int)] w fun e w' => e = .returned (.int .u32 (pu : Int)) ∧ w = w') := Lib.hid (by rw [hpu]; exact fun w => one_any (u : Int) u rfl (by omega) w)
          have CV : Hid (∀ w, Calls Tryd.prog 156 #[.int .i64 (v : Int)] w fun e w' => e = .returned (.int .u32 (pv : Int)) ∧ w = w') := Lib.hid (by rw [hpv]; exact fun w => one_any (v : Int) v rfl (by omega) w)
          obtain ⟨pm, hpm⟩ : ∃ pm, pm = pu ||| pv := ⟨_, rfl⟩
          have hor : bits BinOp.or IntKind.u32 (pu : Int) (pv : Int) = (pm : Int) := by rw [hpm]; exact or_u32 pu pv hpu16 hpv16
          have HPM : Hid (pm = pairM (u, v)) := Lib.hid (by rw [hpm, hpu, hpv]; rfl)
          clear hpu hpv hpm
          go_wp2_with (first
            | (have X1 := MK1; go_at_call 156; refine (CV.out _).mono ?_; rintro e wa ⟨rfl, rfl⟩)
            | (go_at_call 156; refine (CU.out _).mono ?_; rintro e wa ⟨rfl, rfl⟩; have MK1 := trivial)
            | (at_builtin; refine wpList_app1 ty_vsets rfl rfl rfl hown rfl rfl (by omega) hsz ?_; intro v7 w7 hown7 hg7 _))
          go_roundw
          case rel =>
            refine ⟨u + 1, by omega, by go_num, ?_, below_grown HBB.out hown hg7 (Nat.le_refl _) hsz⟩
            rw [pairsU_succ, ← List.append_assoc, maskP_snoc, List.length_append, ← HLN.out, List.map_append, ← HPM.out]
            exact hown7
          case measure => simp [intOf]; omega
        · obtain rfl : u = v := by omega
          go_wp2_with fail
          go_roundw
          case rel => exact ⟨u + 1, by omega, by go_num, by
            have e : pairsK (u + 1) ++ pairsU (u + 1) 0 = pairsK u ++ pairsU u u := by rw [pairsK_succ]; simp [pairsU]
            rw [e, ← HLN.out]; exact hown, HBB.out⟩
          case measure => simp [intOf]; omega
    · obtain rfl : v = n := by omega
      have e0 : pairsK v ++ pairsU v 0 = pairsK v := by simp [pairsU]
      rw [e0, HM.out] at HO
      obtain ⟨ob, oc, rfl⟩ := own_shapeC HO.out hm1
      have HSP := Lib.hid (Sl.of_owns HO.out (by omega))
      have HTr := Lib.hid (HT.out.keep HBB.out)
      have HBX := Lib.hid (HR.out.keep HBB.out)
      have HWW := Lib.hid (HB.out.trans (HBB.out.mono HB.out.size))
      have PMC : Hid (∀ i, i < m → ∃ q : Nat, q < 65536 ∧ wr.cell? ⟨ob, i, none⟩ = some (.int .u32 (q : Int)) ∧ ∃ hi : i < (pairsK v).length, q = pairM (pairsK v)[i]) := Lib.hid (fun i hi => by
        have hi' : i < (pairsK v).length := by rw [HM.out]; exact hi
        refine ⟨pairM (pairsK v)[i], PM.out i hi', ?_, hi', rfl⟩
        have h1 := HO.out.cellAt i (show i < m * 1 by omega)
        rw [h1]
        simp [maskP, u32v, hi'])
      clear e0 HO
      obtain ⟨wo, hwo⟩ : ∃ wo, wo = wr := ⟨_, rfl⟩
      rw [← hwo] at HSP HTr HBX HWW PMC HBB ⊢
      clear hwo
      go_wp2_with (at_make; refine wpList_mk ty_nets rfl rfl rfl m rfl rfl rfl rfl (by omega) ?_; intro w3 hown3 hg3)
      have hb3 := grown_below hg3
      have START2 : Hid (w3.ownsRow wo.heap.size 70 1 (.slice (some ⟨wo.heap.size, 0, none⟩) m m) m ((indN m (allE (knE v) 0 0)).map u32v)) := Lib.hid (by
        rw [allE_start, List.map_replicate]
        exact hown3)
      have START3 := Lib.hid hb3
      clear hown3 hg3 hb3
      go_loopw [40] (fun iv wx => ∃ i : Nat, i ≤ m ∧ iv = .int .i64 (i : Int) ∧ wx.ownsRow wo.heap.size 70 1 (.slice (some ⟨wo.heap.size, 0, none⟩) m m) m ((indN m (allE (knE v) i 0)).map u32v) ∧ Below wo.heap.size wo wx) (fun iv _ => m - (intOf iv).toNat)
      case atStart => exact ⟨0, Nat.zero_le _, rfl, START2.out, START3.out⟩
      case round =>
        clear START2 START3
        obtain ⟨i, hi, rfl, hown, hb⟩ := hrel
        have HO := Lib.hid hown
        have HBB2 := Lib.hid hb
        clear hown
        by_cases him : i < m
        · obtain ⟨qi, hqi16, hci, hil, hqiE⟩ := PMC.out i him
          have HQI := Lib.hid hqiE
          clear hqiE
          have hci2 := hb.at' hci
          have hii : (i : Int) < (m : Int) := by omega
          clear hb hci
          go_wp2_with fail
          clear hci2
          go_loopw [47] (fun kv wy => ∃ k : Nat, k ≤ m ∧ kv = .int .i64 (k : Int) ∧ wy.ownsRow wo.heap.size 70 1 (.slice (some ⟨wo.heap.size, 0, none⟩) m m) m ((indN m (allE (knE v) i k)).map u32v) ∧ Below wo.heap.size wo wy) (fun kv _ => m - (intOf kv).toNat)
          case atStart => exact ⟨0, Nat.zero_le _, rfl, HO.out, HBB2.out⟩
          case round =>
            clear HO HBB2
            obtain ⟨k, hk, rfl, hown, hb⟩ := hrel
            have HO := Lib.hid hown
            have HBB2 := Lib.hid hb
            clear hown
            by_cases hkm : k < m
            · obtain ⟨qk, hqk16, hck, hkl, HQK⟩ := PMC.out k hkm
              have hck2 := hb.at' hck
              have hki : (k : Int) < (m : Int) := by omega
              obtain ⟨z, hz⟩ : ∃ z, z = qi &&& qk := ⟨_, rfl⟩
              have hand : bits BinOp.and IntKind.u32 (qi : Int) (qk : Int) = (z : Int) := by rw [hz]; exact u32_and_nat qi qk (by omega) (by omega)
              have HZ : Hid (z = 0 ↔ knE v i k = true) := Lib.hid (by rw [hz, HQI.out, HQK, pairM_and, knE_at hil hkl])
              clear hb hck HQK hz
              by_cases hz0 : z = 0
              · have HEY := Lib.hid (HZ.out.1 hz0)
                have hzz : ((z : Int) == 0) = true := by simp [hz0]
                have hik : i ≠ k := by
                  intro e
                  have := HEY.out
                  rw [e, knE_irr] at this
                  cases this
                have hjj := join_any (.slice (some ⟨wo.heap.size, 0, none⟩) m m) (i : Int) (k : Int) (indN m (allE (knE v) i k)) i k wo.heap.size rfl rfl (by rw [HSL.out]; omega) (by rw [HSL.out]; omega) hik (by rw [HSL.out]; omega) (HE16.out _) wr (by rw [HSL.out]; exact HO.out)
                rw [HSL.out, allE_yes (knE_sym v) him hkm hik HEY.out] at hjj
                have HJ := Lib.hid hjj
                clear hjj hz0
                go_wp2_with (go_at_call 139; refine HJ.out.mono ?_; rintro e w6 ⟨rfl, ho6, hg6⟩)
                go_roundw
                case rel => exact ⟨k + 1, by omega, by go_num, ho6, below_grown HBB2.out HO.out hg6 (Nat.le_refl _) HBB2.out.size⟩
                case measure => simp [intOf]; omega
              · have hzz : ((z : Int) == 0) = false := beq_eq_false_iff_ne.2 (by omega)
                have HEN : Hid (knE v i k = false) := Lib.hid (Bool.eq_false_iff.2 fun h => hz0 (HZ.out.2 h))
                have HNX := Lib.hid (allE_no (m := m) (knE_sym v) HEN.out)
                clear hz0
                go_wp2_with fail
                go_roundw
                case rel => exact ⟨k + 1, by omega, by go_num, by rw [← HNX.out]; exact HO.out, HBB2.out⟩
                case measure => simp [intOf]; omega
            · obtain rfl : k = m := by omega
              have HNX := Lib.hid (allE_row (m := k) (E := knE v) (i := i))
              clear hb
              go_wp2_with fail
              go_roundw
              case rel => exact ⟨i + 1, by omega, by go_num, by rw [← HNX.out]; exact HO.out, HBB2.out⟩
              case measure => simp [intOf]; omega
        · obtain rfl : i = m := by omega
          have HX : Hid (Sl wr 70 (.slice (some ⟨wo.heap.size, 0, none⟩) i i) (indN i (knE v)).length ((indN i (knE v)).map u32v)) := Lib.hid (by
            have := HO.out
            rw [allE_end] at this
            rw [HSL.out]
            exact Sl.of_owns this (by omega))
          have HTr2 := Lib.hid (HTr.out.keep HBB2.out)
          have HBX2 := Lib.hid (HBX.out.keep HBB2.out)
          clear hb
          go_wp2_with (go_at_call 118; refine (graph_any _ (indN i (knE v)) (HE16.out _) (by rw [HSL.out]; omega) _ HX.out HTr2.out).mono ?_; rintro e w8 ⟨u8, rfl, hd8, hb8⟩; rw [rowsOf_indN (by omega)] at hd8; obtain ⟨p8, c8, rfl⟩ := hd8.shape; obtain ⟨mc, mf, ml, mB⟩ := HBX2.out.keep hb8)
          have s8 := HBB2.out.size
          have s0 := HWW.out.size
          have e8 := matG_length i (knE v)
          rw [e8] at hd8
          refine bodyPost_ret (v := .tuple #[.agg #[.slice p8 i c8], .bool true]) (by simp [results, Tryd.results66, go_sem, mc, e8]) rfl ⟨p8, c8, rfl, ?_, ?_⟩
          · exact (hd8.setBox ⟨mc, mf, ml, mB⟩ _).base (by omega)
          · exact (HWW.out.trans ((HBB2.out.trans (hb8.mono (by omega))).mono (by omega))).setCell (by show w.heap.size ≤ w.heap.size; omega) _

end Go.Proofs.YtkppbmfliejnmaaDoor
