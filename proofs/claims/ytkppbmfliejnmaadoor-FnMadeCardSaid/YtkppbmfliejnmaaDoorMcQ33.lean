/- Walks: the graph of pairs, the program's and the reference's. -/
import Derived.Test.YtkppbmfliejnmaaDoorMcQ32
import Derived.Test.YtkppbmfliejnmaaDoorMcQ24
import Derived.Test.YtkppbmfliejnmaaDoorMcQ14
import Derived.Test.YtkppbmfliejnmaaDoorMcQ27
import Derived.Test.YtkppbmfliejnmaaDoorMcQ17
namespace Go.Proofs.YtkppbmfliejnmaaDoor
open Go.RowKit

/-- The masks of pairs. -/
def pairM (p : Nat × Nat) : Nat := 2 ^ p.1 ||| 2 ^ p.2
def maskP (l : List (Nat × Nat)) : List Nat := l.map pairM
theorem maskP_snoc (l : List (Nat × Nat)) (p : Nat × Nat) : maskP (l ++ [p]) = maskP l ++ [pairM p] := by simp [maskP]
theorem pairM_and {p q : Nat × Nat} : pairM p &&& pairM q = 0 ↔ offK p q = true := by
  unfold pairM offK
  simp only [Bool.and_eq_true, bne_iff_ne]
  constructor
  · intro h
    have key : ∀ i, ((p.1 = i ∨ p.2 = i) ∧ (q.1 = i ∨ q.2 = i)) → False := fun i hi => by
      have : (((2 ^ p.1 ||| 2 ^ p.2) &&& (2 ^ q.1 ||| 2 ^ q.2)).testBit i) = true := by
        rw [Nat.testBit_and, Nat.testBit_or, Nat.testBit_or, testBit_pow, testBit_pow, testBit_pow, testBit_pow]
        simp only [Bool.and_eq_true, Bool.or_eq_true, decide_eq_true_eq]
        exact hi
      rw [h] at this
      simp at this
    exact ⟨⟨⟨fun e => key p.1 ⟨.inl rfl, .inl e.symm⟩, fun e => key p.1 ⟨.inl rfl, .inr e.symm⟩⟩, fun e => key p.2 ⟨.inr rfl, .inl e.symm⟩⟩, fun e => key p.2 ⟨.inr rfl, .inr e.symm⟩⟩
  · rintro ⟨⟨⟨h1, h2⟩, h3⟩, h4⟩
    refine Nat.eq_of_testBit_eq fun i => ?_
    rw [Nat.testBit_and, Nat.testBit_or, Nat.testBit_or, testBit_pow, testBit_pow, testBit_pow, testBit_pow, Nat.zero_testBit]
    rw [Bool.eq_false_iff]
    intro h
    simp only [Bool.and_eq_true, Bool.or_eq_true, decide_eq_true_eq] at h
    omega
theorem pairM_lt {p : Nat × Nat} (h1 : p.1 < 16) (h2 : p.2 < 16) : pairM p < 65536 := or_lt16 _ _ (pow_lt16 _ h1) (pow_lt16 _ h2)
theorem knE_at {n i k : Nat} (hi : i < (pairsK n).length) (hk : k < (pairsK n).length) : knE n i k = offK (pairsK n)[i] (pairsK n)[k] := by
  unfold knE
  simp [hi, hk]
def KnOk (n : Int) : Prop := 4 ≤ n ∧ n ≤ 6
theorem pairsU_len (v u : Nat) : (pairsU v u).length = u := by simp [pairsU]
theorem pairsK_le {n v : Nat} (h : v ≤ n) : (pairsK v).length ≤ n * n := by
  induction v with
  | zero => exact Nat.zero_le _
  | succ v ih =>
    rw [pairsK_succ, List.length_append, pairsU_len]
    have h2 : ∀ v, (pairsK v).length ≤ v * v := fun v => by
      induction v with
      | zero => exact Nat.zero_le _
      | succ v ih => rw [pairsK_succ, List.length_append, pairsU_len, Nat.succ_mul_succ]; omega
    have h3 := h2 v
    have h4 : (v + 1) * (v + 1) ≤ n * n := Nat.mul_le_mul h h
    rw [Nat.succ_mul_succ] at h4
    omega

theorem own_shapeK {w : World} {base n : Nat} {E : TypeId} {v : Value} {xs : List Value} (h : w.ownsRow base E 1 v n xs) : ∃ p c, v = .slice p n c := by
  rcases h.2 with ⟨h1, h0⟩ | ⟨g, cap, cur, h1, _⟩
  · exact ⟨none, 0, by rw [h1, h0]⟩
  · exact ⟨_, _, h1⟩

set_option maxRecDepth 100000 in
set_option maxHeartbeats 4000000 in
theorem implKneser_no (n : Int) (hno : ¬ KnOk n) (w : World) :
    Calls Tryd.prog 66 #[.int .i64 n] w fun e w' => e = .returned (.tuple #[.agg #[.slice none 0 0], .bool false]) ∧ Below w.heap.size w w' := by
  have HB := Lib.hid (below_alloc w (.cells #[.slice none 0 0] 29))
  have HX := Lib.hid (Box.new w (.slice none 0 0) 29)
  obtain ⟨nc, nf, nl, nB⟩ := id HX.out
  have HD1 := Lib.hid (dec_false (show ¬ (4 ≤ n ∧ n ≤ 6) from hno))
  clear hno
  go_enter Tryd.func66, Tryd.ntmps66
  go_wp2_with (go_at_call 137; refine (inRange_any _ _ _ _).mono ?_; rintro e w2 ⟨he, rfl⟩; rw [HD1.out] at he; subst he)
  exact bodyPost_ret (v := .tuple #[.agg #[.slice none 0 0], .bool false]) (by simp [results, Tryd.results66, go_sem, nc]) rfl ⟨rfl, by first | exact HB.out | exact HB.out.setCell (by show w.heap.size ≤ w.heap.size; omega) _⟩

set_option maxRecDepth 100000 in
set_option maxHeartbeats 8000000 in
theorem implKneser_yes (n m : Nat) (hn1 : 4 ≤ n) (hn6 : n ≤ 6) (hm : (pairsK n).length = m) (hm1 : 1 ≤ m) (hm16 : m ≤ 16) (w : World) (hT : Tab w) :
    Calls Tryd.prog 66 #[.int .i64 (n : Int)] w fun e w' => ∃ (p : Option Addr) (c : Nat), e = .returned (.tuple #[.agg #[.slice p m c], .bool true]) ∧ DG w' w.heap.size (.agg #[.slice p m c]) (matG m (knE n)) ∧ Below w.heap.size w w' := by
  obtain ⟨w1, hw1⟩ : ∃ w1, w1 = w.alloc (.cells #[.slice none 0 0] 29) := ⟨_, rfl⟩
  have HR : Hid (Box w1 w.heap.size 29 (.slice none 0 0)) := Lib.hid (by rw [hw1]; exact Box.new _ _ _)
  have HB : Hid (Below w.heap.size w w1) := Lib.hid (by rw [hw1]; exact below_alloc _ _)
  have HD1 := Lib.hid (dec_true (show (4 : Int) ≤ (n : Int) ∧ (n : Int) ≤ 6 from ⟨by omega, by omega⟩))
  have HT := Lib.hid (hT.keep HB.out)
  have HSL : Hid (∀ E : Nat → Nat → Bool, (indN m E).length = m) := Lib.hid (fun E => indN_length _ E)
  have HE16 : Hid (∀ E : Nat → Nat → Bool, ∀ s ∈ indN m E, s < 65536) := Lib.hid (fun E => indN_lt16 hm16)
  have HPL : Hid (∀ v u, v ≤ n → u ≤ v → (pairsK v ++ pairsU v u).length ≤ 100) := Lib.hid (fun v u hv hu => by
    rw [List.length_append, pairsU_len]
    have h1 := pairsK_le hv
    have h2 : n * n ≤ 6 * 6 := Nat.mul_le_mul hn6 hn6
    omega)
  have HM := Lib.hid hm
  have PM := Lib.hid (fun (i : Nat) (hi : i < (pairsK n).length) => by
    have := pairsK_mem _ (List.getElem_mem hi)
    exact pairM_lt (p := (pairsK n)[i]) (by omega) (by omega))
  clear hT hm
  go_enter Tryd.func66, Tryd.ntmps66
  go_upto_region 1 with fail
  rw [← hw1]
  clear hw1
  have START : Hid ((w1.alloc (.cells #[] 70)).ownsRow w1.heap.size 70 1 (.slice (some ⟨w1.heap.size, 0, none⟩) 0 0) (pairsK 0 ++ pairsU 0 0).length ((maskP (pairsK 0 ++ pairsU 0 0)).map u32v)) := Lib.hid (ownsRow_empty w1 _ 1)
  go_wp2_with (go_at_call 137; refine (inRange_any _ _ _ _).mono ?_; rintro e w2 ⟨he, rfl⟩; rw [HD1.out] at he; subst he)
  go_loopw [4, 18] (fun ov iv wr => ∃ v : Nat, v ≤ n ∧ iv = .int .i64 (v : Int) ∧ wr.ownsRow w1.heap.size 70 1 ov (pairsK v ++ pairsU v 0).length ((maskP (pairsK v ++ pairsU v 0)).map u32v) ∧ Below w1.heap.size w1 wr) (fun _ iv _ => n - (intOf iv).toNat)
  case atStart => exact ⟨0, Nat.zero_le _, rfl, START.out, below_alloc _ _⟩
  case round =>
    clear START
    obtain ⟨v, hv, rfl, hown, hb⟩ := hrel
    have HO := Lib.hid hown
    have HBB := Lib.hid hb
    clear hown hb
    by_cases hlt : v < n
    · have hvi : (v : Int) < (n : Int) := by omega
      obtain ⟨op, oc, rfl⟩ := own_shapeK HO.out
      go_wp2_with fail
      go_loopw [4, 22] (fun ov iv wx => ∃ u : Nat, u ≤ v ∧ iv = .int .i64 (u : Int) ∧ wx.ownsRow w1.heap.size 70 1 ov (pairsK v ++ pairsU v u).length ((maskP (pairsK v ++ pairsU v u)).map u32v) ∧ Below w1.heap.size w1 wx) (fun _ iv _ => v - (intOf iv).toNat)
      case atStart => exact ⟨0, Nat.zero_le _, rfl, HO.out, HBB.out⟩
      case round =>
        clear HO HBB
        obtain ⟨u, hu, rfl, hown, hb⟩ := hrel
        obtain ⟨ln, hln⟩ : ∃ ln, ln = (pairsK v ++ pairsU v u).length := ⟨_, rfl⟩
        have hl100 := HPL.out v u hv hu
        rw [← hln] at hown hl100
        obtain ⟨op, oc, rfl⟩ := own_shapeK hown
        have HLN := Lib.hid hln
        have hsz := hb.size
        have HBB := Lib.hid hb
        clear hb hln
        by_cases hul : u < v
        · have hui : (u : Int) < (v : Int) := by omega
          obtain ⟨pu, hpu⟩ : ∃ pu, pu = 2 ^ u := ⟨_, rfl⟩
          obtain ⟨pv, hpv⟩ : ∃ pv, pv = 2 ^ v := ⟨_, rfl⟩
          have hpu16 : pu < 65536 := by rw [hpu]; exact pow_lt16 u (by omega)
          have hpv16 : pv < 65536 := by rw [hpv]; exact pow_lt16 v (by omega)
          have CU : Hid (∀ w, Calls Tryd.prog 156 #[.int .i64 (u : Int)] w fun e w' => e = .returned (.int .u32 (pu : Int)) ∧ w = w') := Lib.hid (by rw [hpu]; exact fun w => one_any (u : Int) u rfl (by omega) w)
          have CV : Hid (∀ w, Calls Tryd.prog 156 #[.int .i64 (v : Int)] w fun e w' => e = .returned (.int .u32 (pv : Int)) ∧ w = w') := Lib.hid (by rw [hpv]; exact fun w => one_any (v : Int) v rfl (by omega) w)
          obtain ⟨pm, hpm⟩ : ∃ pm, pm = pu ||| pv := ⟨_, rfl⟩
          have hor : bits BinOp.or IntKind.u32 (pu : Int) (pv : Int) = (pm : Int) := by rw [hpm]; exact or_u32 pu pv hpu16 hpv16
          have HPM : Hid (pm = pairM (u, v)) := Lib.hid (by rw [hpm, hpu, hpv]; rfl)
          clear hpu hpv hpm
          go_wp2_with (first
            | (have X1 := MK1; go_at_call 156; refine (CV.out _).mono ?_; rintro e wa ⟨rfl, rfl⟩)
            | (go_at_call 156; refine (CU.out _).mono ?_; rintro e wa ⟨rfl, rfl⟩; have MK1 := trivial)
            | (at_builtin; refine wpList_app1 ty_vsets rfl rfl rfl hown rfl rfl (by omega) hsz ?_; intro v7 w7 hown7 hg7 _))
          go_roundw
          case rel =>
            refine ⟨u + 1, by omega, by go_num, ?_, below_grown HBB.out hown hg7 (Nat.le_refl _) hsz⟩
            rw [pairsU_succ, ← List.append_assoc, maskP_snoc, List.length_append, ← HLN.out, List.map_append, ← HPM.out]
            exact hown7
          case measure => simp [intOf]; omega
        · obtain rfl : u = v := by omega
          go_wp2_with fail
          go_roundw
          case rel => exact ⟨u + 1, by omega, by go_num, by
            have e : pairsK (u + 1) ++ pairsU (u + 1) 0 = pairsK u ++ pairsU u u := by rw [pairsK_succ]; simp [pairsU]
            rw [e, ← HLN.out]; exact hown, HBB.out⟩
          case measure => simp [intOf]; omega
    · obtain rfl : v = n := by omega
      have e0 : pairsK v ++ pairsU v 0 = pairsK v := by simp [pairsU]
      rw [e0, HM.out] at HO
      obtain ⟨ob, oc, rfl⟩ := own_shapeC HO.out hm1
      have HSP := Lib.hid (Sl.of_owns HO.out (by omega))
      have HTr := Lib.hid (HT.out.keep HBB.out)
      have HBX := Lib.hid (HR.out.keep HBB.out)
      have HWW := Lib.hid (HB.out.trans (HBB.out.mono HB.out.size))
      have PMC : Hid (∀ i, i < m → ∃ q : Nat, q < 65536 ∧ wr.cell? ⟨ob, i, none⟩ = some (.int .u32 (q : Int)) ∧ ∃ hi : i < (pairsK v).length, q = pairM (pairsK v)[i]) := Lib.hid (fun i hi => by
        have hi' : i < (pairsK v).length := by rw [HM.out]; exact hi
        refine ⟨pairM (pairsK v)[i], PM.out i hi', ?_, hi', rfl⟩
        have h1 := HO.out.cellAt i (show i < m * 1 by omega)
        rw [h1]
        simp [maskP, u32v, hi'])
      clear e0 HO
      obtain ⟨wo, hwo⟩ : ∃ wo, wo = wr := ⟨_, rfl⟩
      rw [← hwo] at HSP HTr HBX HWW PMC HBB ⊢
      clear hwo
      go_wp2_with (at_make; refine wpList_mk ty_nets rfl rfl rfl m rfl rfl rfl rfl (by omega) ?_; intro w3 hown3 hg3)
      have hb3 := grown_below hg3
      have START2 : Hid (w3.ownsRow wo.heap.size 70 1 (.slice (some ⟨wo.heap.size, 0, none⟩) m m) m ((indN m (allE (knE v) 0 0)).map u32v)) := Lib.hid (by
        rw [allE_start, List.map_replicate]
        exact hown3)
      have START3 := Lib.hid hb3
      clear hown3 hg3 hb3
      go_loopw [40] (fun iv wx => ∃ i : Nat, i ≤ m ∧ iv = .int .i64 (i : Int) ∧ wx.ownsRow wo.heap.size 70 1 (.slice (some ⟨wo.heap.size, 0, none⟩) m m) m ((indN m (allE (knE v) i 0)).map u32v) ∧ Below wo.heap.size wo wx) (fun iv _ => m - (intOf iv).toNat)
      case atStart => exact ⟨0, Nat.zero_le _, rfl, START2.out, START3.out⟩
      case round =>
        clear START2 START3
        obtain ⟨i, hi, rfl, hown, hb⟩ := hrel
        have HO := Lib.hid hown
        have HBB2 := Lib.hid hb
        clear hown
        by_cases him : i < m
        · obtain ⟨qi, hqi16, hci, hil, hqiE⟩ := PMC.out i him
          have HQI := Lib.hid hqiE
          clear hqiE
          have hci2 := hb.at' hci
          have hii : (i : Int) < (m : Int) := by omega
          clear hb hci
          go_wp2_with fail
          clear hci2
          go_loopw [47] (fun kv wy => ∃ k : Nat, k ≤ m ∧ kv = .int .i64 (k : Int) ∧ wy.ownsRow wo.heap.size 70 1 (.slice (some ⟨wo.heap.size, 0, none⟩) m m) m ((indN m (allE (knE v) i k)).map u32v) ∧ Below wo.heap.size wo wy) (fun kv _ => m - (intOf kv).toNat)
          case atStart => exact ⟨0, Nat.zero_le _, rfl, HO.out, HBB2.out⟩
          case round =>
            clear HO HBB2
            obtain ⟨k, hk, rfl, hown, hb⟩ := hrel
            have HO := Lib.hid hown
            have HBB2 := Lib.hid hb
            clear hown
            by_cases hkm : k < m
            · obtain ⟨qk, hqk16, hck, hkl, HQK⟩ := PMC.out k hkm
              have hck2 := hb.at' hck
              have hki : (k : Int) < (m : Int) := by omega
              obtain ⟨z, hz⟩ : ∃ z, z = qi &&& qk := ⟨_, rfl⟩
              have hand : bits BinOp.and IntKind.u32 (qi : Int) (qk : Int) = (z : Int) := by rw [hz]; exact u32_and_nat qi qk (by omega) (by omega)
              have HZ : Hid (z = 0 ↔ knE v i k = true) := Lib.hid (by rw [hz, HQI.out, HQK, pairM_and, knE_at hil hkl])
              clear hb hck HQK hz
              by_cases hz0 : z = 0
              · have HEY := Lib.hid (HZ.out.1 hz0)
                have hzz : ((z : Int) == 0) = true := by simp [hz0]
                have hik : i ≠ k := by
                  intro e
                  have := HEY.out
                  rw [e, knE_irr] at this
                  cases this
                have hjj := join_any (.slice (some ⟨wo.heap.size, 0, none⟩) m m) (i : Int) (k : Int) (indN m (allE (knE v) i k)) i k wo.heap.size rfl rfl (by rw [HSL.out]; omega) (by rw [HSL.out]; omega) hik (by rw [HSL.out]; omega) (HE16.out _) wr (by rw [HSL.out]; exact HO.out)
                rw [HSL.out, allE_yes (knE_sym v) him hkm hik HEY.out] at hjj
                have HJ := Lib.hid hjj
                clear hjj hz0
                go_wp2_with (go_at_call 139; refine HJ.out.mono ?_; rintro e w6 ⟨rfl, ho6, hg6⟩)
                go_roundw
                case rel => exact ⟨k + 1, by omega, by go_num, ho6, below_grown HBB2.out HO.out hg6 (Nat.le_refl _) HBB2.out.size⟩
                case measure => simp [intOf]; omega
              · have hzz : ((z : Int) == 0) = false := beq_eq_false_iff_ne.2 (by omega)
                have HEN : Hid (knE v i k = false) := Lib.hid (Bool.eq_false_iff.2 fun h => hz0 (HZ.out.2 h))
                have HNX := Lib.hid (allE_no (m := m) (knE_sym v) HEN.out)
                clear hz0
                go_wp2_with fail
                go_roundw
                case rel => exact ⟨k + 1, by omega, by go_num, by rw [← HNX.out]; exact HO.out, HBB2.out⟩
                case measure => simp [intOf]; omega
            · obtain rfl : k = m := by omega
              have HNX := Lib.hid (allE_row (m := k) (E := knE v) (i := i))
              clear hb
              go_wp2_with fail
              go_roundw
              case rel => exact ⟨i + 1, by omega, by go_num, by rw [← HNX.out]; exact HO.out, HBB2.out⟩
              case measure => simp [intOf]; omega
        · obtain rfl : i = m := by omega
          have HX : Hid (Sl wr 70 (.slice (some ⟨wo.heap.size, 0, none⟩) i i) (indN i (knE v)).length ((indN i (knE v)).map u32v)) := Lib.hid (by
            have := HO.out
            rw [allE_end] at this
            rw [HSL.out]
            exact Sl.of_owns this (by omega))
          have HTr2 := Lib.hid (HTr.out.keep HBB2.out)
          have HBX2 := Lib.hid (HBX.out.keep HBB2.out)
          clear hb
          go_wp2_with (go_at_call 118; refine (graph_any _ (indN i (knE v)) (HE16.out _) (by rw [HSL.out]; omega) _ HX.out HTr2.out).mono ?_; rintro e w8 ⟨u8, rfl, hd8, hb8⟩; rw [rowsOf_indN (by omega)] at hd8; obtain ⟨p8, c8, rfl⟩ := hd8.shape; obtain ⟨mc, mf, ml, mB⟩ := HBX2.out.keep hb8)
          have s8 := HBB2.out.size
          have s0 := HWW.out.size
          have e8 := matG_length i (knE v)
          rw [e8] at hd8
          refine bodyPost_ret (v := .tuple #[.agg #[.slice p8 i c8], .bool true]) (by simp [results, Tryd.results66, go_sem, mc, e8]) rfl ⟨p8, c8, rfl, ?_, ?_⟩
          · exact (hd8.setBox ⟨mc, mf, ml, mB⟩ _).base (by omega)
          · exact (HWW.out.trans ((HBB2.out.trans (hb8.mono (by omega))).mono (by omega))).setCell (by show w.heap.size ≤ w.heap.size; omega) _

end Go.Proofs.YtkppbmfliejnmaaDoor

/- Walks: paths, loops, full graphs and stars of the program. -/
namespace Go.Proofs.YtkppbmfliejnmaaDoor
open Go.RowKit

/-- Nets that are being made. -/
structure Nt (w0 wr : World) (x : Value) (n : Nat) (A : List Nat) : Prop where
  own : wr.ownsRow w0.heap.size 70 1 x n (A.map u32v)
  bel : Below w0.heap.size w0 wr
  len : A.length = n
  lt : ∀ s ∈ A, s < 65536
theorem Nt.make {w0 w' : World} {n : Nat} (ho : w'.ownsRow w0.heap.size 70 1 (.slice (some ⟨w0.heap.size, 0, none⟩) n n) n (List.replicate n (.int .u32 0))) (hg : w0.grownBy w' none) : Nt w0 w' (.slice (some ⟨w0.heap.size, 0, none⟩) n n) n (List.replicate n 0) :=
  ⟨by rw [List.map_replicate]; exact ho, grown_below hg, List.length_replicate, fun s hs => by rw [(List.mem_replicate.1 hs).2]; decide⟩
theorem Nt.join {w0 wr : World} {x : Value} {n : Nat} {A : List Nat} (h : Nt w0 wr x n A) (hn : n ≤ 16) {u v : Nat} (hu : u < n) (hv : v < n) (huv : u ≠ v) {y z : Int} (hy : y = u) (hz : z = v) :
    Calls Tryd.prog 139 #[x, .int .i64 y, .int .i64 z] wr fun e w' => e = .returned (.tuple #[]) ∧ Nt w0 w' x n (joinL A u v) := by
  have h1 := h.len
  refine (join_any x y z A u v w0.heap.size hy hz (by omega) (by omega) huv (by omega) h.lt wr (by rw [h1]; exact h.own)).mono ?_
  rintro e w' ⟨rfl, ho, hg⟩
  rw [h1] at ho
  exact ⟨rfl, ho, below_grown h.bel h.own hg (Nat.le_refl _) h.bel.size, by rw [joinL_length, h1], joinL_lt16 h.lt (by omega) (by omega)⟩
theorem Nt.graph {w0 wr : World} {x : Value} {n : Nat} {A : List Nat} (h : Nt w0 wr x n A) (hn : n ≤ 16) (hT : Tab wr) :
    Calls Tryd.prog 118 #[x] wr fun e w' => ∃ p c, e = .returned (.agg #[.slice p n c]) ∧ DG w' wr.heap.size (.agg #[.slice p n c]) (rowsOf A) ∧ Below wr.heap.size wr w' := by
  refine (graph_any x A h.lt (by rw [h.len]; omega) wr (by rw [h.len]; exact Sl.of_owns h.own (by omega)) hT).mono ?_
  rintro e w' ⟨u, rfl, hd, hb⟩
  obtain ⟨p, c, rfl⟩ := hd.shape
  have e1 : (rowsOf A).length = n := by simp [rowsOf, h.len]
  rw [e1] at hd ⊢
  exact ⟨p, c, rfl, hd, hb⟩
/-- A path of vertices up to k. -/
def itP (n : Nat) : Nat → List Nat
  | 0 => List.replicate n 0
  | k + 1 => joinL (itP n k) k (k + 1)
def itS (n : Nat) : Nat → List Nat
  | 0 => List.replicate n 0
  | k + 1 => joinL (itS n k) 0 (k + 1)

set_option maxRecDepth 100000 in
set_option maxHeartbeats 2000000 in
theorem pathNets_any (n : Nat) (h1 : 1 ≤ n) (h16 : n ≤ 16) (w : World) :
    Calls Tryd.prog 138 #[.int .i64 (n : Int)] w fun e w' => e = .returned (.slice (some ⟨w.heap.size, 0, none⟩) n n) ∧ Nt w w' (.slice (some ⟨w.heap.size, 0, none⟩) n n) n (itP n (n - 1)) := by
  go_enter Tryd.func138, Tryd.ntmps138
  go_wp2_with (at_make; refine wpList_mk ty_nets rfl rfl rfl n rfl rfl rfl rfl (by omega) ?_; intro w1 hown hg)
  have NT := Lib.hid (Nt.make hown hg)
  clear hown hg
  go_loopw [4] (fun iv wr => ∃ k : Nat, k + 1 ≤ n ∧ iv = .int .i64 ((k + 1 : Nat) : Int) ∧ Hid (Nt w wr (.slice (some ⟨w.heap.size, 0, none⟩) n n) n (itP n k))) (fun iv _ => n - (intOf iv).toNat)
  case atStart => exact ⟨0, h1, rfl, NT⟩
  case round =>
    clear NT
    obtain ⟨k, hk, rfl, HN⟩ := hrel
    obtain ⟨m, hm⟩ : ∃ m, m = k + 1 := ⟨_, rfl⟩
    rw [← hm] at hk ⊢
    have HM := Lib.hid hm
    by_cases hlt : m < n
    · have hli : (m : Int) < (n : Int) := by omega
      have hwr : IntKind.i64.wrap ((m : Int) - 1) = (k : Int) := by rw [IntKind.wrap_i64]; omega
      have J := Lib.hid (HN.out.join h16 (u := k) (v := m) (by omega) hlt (by omega) (y := (k : Int)) (z := (m : Int)) rfl rfl)
      clear hm
      go_wp2_with (go_at_call 139; refine J.out.mono ?_; rintro e w2 ⟨rfl, hn2⟩; have HN2 := Lib.hid hn2; clear hn2)
      go_roundw
      case rel => exact ⟨m, by omega, by go_num, Lib.hid (by have := HN2.out; rw [HM.out] at this ⊢; exact this)⟩
      case measure => simp [intOf]; omega
    · have hli : ¬ (m : Int) < (n : Int) := by omega
      have HE : Hid (k = n - 1) := Lib.hid (by omega)
      clear hm
      go_wp2_with fail
      go_ret
      exact ⟨rfl, by rw [← HE.out]; exact HN.out⟩

set_option maxRecDepth 100000 in
set_option maxHeartbeats 2000000 in
theorem implPath_yes (n : Nat) (h1 : 1 ≤ n) (h16 : n ≤ 16) (w : World) (hT : Tab w) :
    Calls Tryd.prog 49 #[.int .i64 (n : Int)] w fun e w' => ∃ (p : Option Addr) (c : Nat), e = .returned (.tuple #[.agg #[.slice p n c], .bool true]) ∧ DG w' w.heap.size (.agg #[.slice p n c]) (rowsOf (itP n (n - 1))) ∧ Below w.heap.size w w' := by
  obtain ⟨W0, hW0⟩ : ∃ W0, W0 = w.alloc (.cells #[.slice none 0 0] 29) := ⟨_, rfl⟩
  have HR : Hid (Box W0 w.heap.size 29 (.slice none 0 0)) := Lib.hid (by rw [hW0]; exact Box.new _ _ _)
  have HB : Hid (Below w.heap.size w W0) := Lib.hid (by rw [hW0]; exact below_alloc _ _)
  have HD1 := Lib.hid (dec_true (show (1 : Int) ≤ (n : Int) ∧ (n : Int) ≤ 16 from ⟨by omega, by omega⟩))
  have HT := Lib.hid (hT.keep HB.out)
  clear hT
  go_enter Tryd.func49, Tryd.ntmps49
  go_upto_region 1 with fail
  rw [← hW0]
  clear hW0
  go_wp2_with (first
    | (go_at_call 118; refine (HN.out.graph h16 (HT.out.keep HN.out.bel)).mono ?_; rintro e w8 ⟨p8, c8, rfl, hd8, hb8⟩; obtain ⟨mc, mf, ml, mB⟩ := (HR.out.keep HN.out.bel).keep hb8)
    | (go_at_call 138; refine (pathNets_any n h1 h16 _).mono ?_; rintro e w3 ⟨rfl, hn⟩; have HN := Lib.hid hn; clear hn)
    | (go_at_call 137; refine (inRange_any _ _ _ _).mono ?_; rintro e w2 ⟨he, rfl⟩; rw [HD1.out] at he; subst he))
  have s8 := HN.out.bel.size
  have s0 := HB.out.size
  refine bodyPost_ret (v := .tuple #[.agg #[.slice p8 n c8], .bool true]) (by simp [results, Tryd.results49, go_sem, mc]) rfl ⟨p8, c8, rfl, ?_, ?_⟩
  · exact (hd8.setBox ⟨mc, mf, ml, mB⟩ _).base (by omega)
  · exact (HB.out.trans ((HN.out.bel.trans (hb8.mono (by omega))).mono (by omega))).setCell (by show w.heap.size ≤ w.heap.size; omega) _

set_option maxRecDepth 100000 in
set_option maxHeartbeats 2000000 in
theorem implLoop_yes (n : Nat) (h1 : 3 ≤ n) (h16 : n ≤ 16) (w : World) (hT : Tab w) :
    Calls Tryd.prog 50 #[.int .i64 (n : Int)] w fun e w' => ∃ (p : Option Addr) (c : Nat), e = .returned (.tuple #[.agg #[.slice p n c], .bool true]) ∧ DG w' w.heap.size (.agg #[.slice p n c]) (rowsOf (joinL (itP n (n - 1)) 0 (n - 1))) ∧ Below w.heap.size w w' := by
  obtain ⟨W0, hW0⟩ : ∃ W0, W0 = w.alloc (.cells #[.slice none 0 0] 29) := ⟨_, rfl⟩
  have HR : Hid (Box W0 w.heap.size 29 (.slice none 0 0)) := Lib.hid (by rw [hW0]; exact Box.new _ _ _)
  have HB : Hid (Below w.heap.size w W0) := Lib.hid (by rw [hW0]; exact below_alloc _ _)
  have HD1 := Lib.hid (dec_true (show (3 : Int) ≤ (n : Int) ∧ (n : Int) ≤ 16 from ⟨by omega, by omega⟩))
  have HT := Lib.hid (hT.keep HB.out)
  have hwr : IntKind.i64.wrap ((n : Int) - 1) = ((n - 1 : Nat) : Int) := by rw [IntKind.wrap_i64]; omega
  clear hT
  go_enter Tryd.func50, Tryd.ntmps50
  go_upto_region 1 with fail
  rw [← hW0]
  clear hW0
  go_wp2_with (first
    | (go_at_call 118; refine (HN4.out.graph h16 (HT.out.keep HN4.out.bel)).mono ?_; rintro e w8 ⟨p8, c8, rfl, hd8, hb8⟩; obtain ⟨mc, mf, ml, mB⟩ := (HR.out.keep HN4.out.bel).keep hb8)
    | (go_at_call 139; refine (HN.out.join h16 (u := 0) (v := n - 1) (by omega) (by omega) (by omega) (by rfl) (by rfl)).mono ?_; rintro e w4 ⟨rfl, hn4⟩; have HN4 := Lib.hid hn4; clear hn4)
    | (go_at_call 138; refine (pathNets_any n (by omega) h16 _).mono ?_; rintro e w3 ⟨rfl, hn⟩; have HN := Lib.hid hn; clear hn)
    | (go_at_call 137; refine (inRange_any _ _ _ _).mono ?_; rintro e w2 ⟨he, rfl⟩; rw [HD1.out] at he; subst he))
  have s8 := HN4.out.bel.size
  have s0 := HB.out.size
  refine bodyPost_ret (v := .tuple #[.agg #[.slice p8 n c8], .bool true]) (by simp [results, Tryd.results50, go_sem, mc]) rfl ⟨p8, c8, rfl, ?_, ?_⟩
  · exact (hd8.setBox ⟨mc, mf, ml, mB⟩ _).base (by omega)
  · exact (HB.out.trans ((HN4.out.bel.trans (hb8.mono (by omega))).mono (by omega))).setCell (by show w.heap.size ≤ w.heap.size; omega) _

set_option maxRecDepth 100000 in
set_option maxHeartbeats 2000000 in
theorem implFull_yes (n : Nat) (h1 : 1 ≤ n) (h16 : n ≤ 16) (w : World) (hT : Tab w) :
    Calls Tryd.prog 51 #[.int .i64 (n : Int)] w fun e w' => ∃ (p : Option Addr) (c : Nat), e = .returned (.tuple #[.agg #[.slice p n c], .bool true]) ∧ DG w' w.heap.size (.agg #[.slice p n c]) (matG n (compE fun _ _ => false)) ∧ Below w.heap.size w w' := by
  obtain ⟨W0, hW0⟩ : ∃ W0, W0 = w.alloc (.cells #[.slice none 0 0] 29) := ⟨_, rfl⟩
  have HR : Hid (Box W0 w.heap.size 29 (.slice none 0 0)) := Lib.hid (by rw [hW0]; exact Box.new _ _ _)
  have HB : Hid (Below w.heap.size w W0) := Lib.hid (by rw [hW0]; exact below_alloc _ _)
  have HD1 := Lib.hid (dec_true (show (1 : Int) ≤ (n : Int) ∧ (n : Int) ≤ 16 from ⟨by omega, by omega⟩))
  have HT := Lib.hid (hT.keep HB.out)
  have HIN : Hid (List.replicate n 0 = indN n fun _ _ => false) := Lib.hid (indN_none n fun _ _ _ _ => rfl).symm
  clear hT
  go_enter Tryd.func51, Tryd.ntmps51
  go_upto_region 1 with fail
  rw [← hW0]
  clear hW0
  go_wp2_with (first
    | (go_at_call 118; refine (graph_any _ (indN n (compE fun _ _ => false)) (indN_lt16 h16) (by rw [indN_length]; omega) _ (by rw [indN_length]; exact Sl.of_owns HOC.out (by omega)) (HT.out.keep HB4.out)).mono ?_; rintro e w8 ⟨u8, rfl, hd8, hb8⟩; rw [rowsOf_indN h16] at hd8; obtain ⟨p8, c8, rfl⟩ := hd8.shape; obtain ⟨mc, mf, ml, mB⟩ := (HR.out.keep HB4.out).keep hb8)
    | (go_at_call 94; refine (complement_any _ _ n (fun _ _ => false) _ ⟨h16, by rw [← HIN.out]; exact Sl.of_owns HN.out.own (by omega)⟩).mono ?_; rintro e w4 ⟨u4, rfl, ho4, hb4⟩; have HOC := Lib.hid ho4; have HB4 := Lib.hid (HN.out.bel.trans (hb4.mono HN.out.bel.size)); obtain ⟨q4, d4, rfl⟩ := own_shapeK ho4; clear ho4 hb4)
    | (at_make; refine wpList_mk ty_nets rfl rfl rfl n rfl rfl rfl rfl (by omega) ?_; intro w3 hown hg; have HN := Lib.hid (Nt.make hown hg); clear hown hg)
    | (go_at_call 137; refine (inRange_any _ _ _ _).mono ?_; rintro e w2 ⟨he, rfl⟩; rw [HD1.out] at he; subst he))
  have s8 := HB4.out.size
  have s0 := HB.out.size
  have e8 := matG_length n (compE fun _ _ => false)
  rw [e8] at hd8
  refine bodyPost_ret (v := .tuple #[.agg #[.slice p8 n c8], .bool true]) (by simp [results, Tryd.results51, go_sem, mc, e8]) rfl ⟨p8, c8, rfl, ?_, ?_⟩
  · exact (hd8.setBox ⟨mc, mf, ml, mB⟩ _).base (by omega)
  · exact (HB.out.trans ((HB4.out.trans (hb8.mono (by omega))).mono (by omega))).setCell (by show w.heap.size ≤ w.heap.size; omega) _

set_option maxRecDepth 100000 in
set_option maxHeartbeats 2000000 in
theorem implStar_yes (n m : Nat) (h1 : 1 ≤ n) (h15 : n ≤ 15) (hm : m = n + 1) (w : World) (hT : Tab w) :
    Calls Tryd.prog 55 #[.int .i64 (n : Int)] w fun e w' => ∃ (p : Option Addr) (c : Nat), e = .returned (.tuple #[.agg #[.slice p m c], .bool true]) ∧ DG w' w.heap.size (.agg #[.slice p m c]) (rowsOf (itS m n)) ∧ Below w.heap.size w w' := by
  obtain ⟨W0, hW0⟩ : ∃ W0, W0 = w.alloc (.cells #[.slice none 0 0] 29) := ⟨_, rfl⟩
  have HR : Hid (Box W0 w.heap.size 29 (.slice none 0 0)) := Lib.hid (by rw [hW0]; exact Box.new _ _ _)
  have HB : Hid (Below w.heap.size w W0) := Lib.hid (by rw [hW0]; exact below_alloc _ _)
  have HD1 := Lib.hid (dec_true (show (0 : Int) ≤ (n : Int) ∧ (n : Int) ≤ 15 from ⟨by omega, by omega⟩))
  have HT := Lib.hid (hT.keep HB.out)
  have hwm : IntKind.i64.wrap ((n : Int) + 1) = (m : Int) := by rw [IntKind.wrap_i64]; omega
  have m16 : m ≤ 16 := by omega
  have m2 : 2 ≤ m := by omega
  have HME := Lib.hid hm
  clear hT hm
  go_enter Tryd.func55, Tryd.ntmps55
  go_upto_region 1 with fail
  rw [← hW0]
  clear hW0
  go_wp2_with (first
    | (at_make; refine wpList_mk ty_nets rfl rfl rfl m rfl rfl rfl rfl (by omega) ?_; intro w3 hown hg; have HN := Lib.hid (Nt.make hown hg); clear hown hg)
    | (go_at_call 137; refine (inRange_any _ _ _ _).mono ?_; rintro e w2 ⟨he, rfl⟩; rw [HD1.out] at he; subst he))
  go_loopw [5] (fun iv wr => ∃ k : Nat, k + 1 ≤ m ∧ iv = .int .i64 ((k + 1 : Nat) : Int) ∧ Hid (Nt W0 wr (.slice (some ⟨W0.heap.size, 0, none⟩) m m) m (itS m k))) (fun iv _ => m - (intOf iv).toNat)
  case atStart => exact ⟨0, by omega, rfl, HN⟩
  case round =>
    clear HN
    obtain ⟨k, hk, rfl, HN⟩ := hrel
    obtain ⟨j, hj⟩ : ∃ j, j = k + 1 := ⟨_, rfl⟩
    rw [← hj] at hk ⊢
    have HJ := Lib.hid hj
    by_cases hlt : j < m
    · have hli : (j : Int) < (m : Int) := by omega
      have J := Lib.hid (HN.out.join m16 (u := 0) (v := j) (by omega) hlt (by omega) (y := 0) (z := (j : Int)) rfl rfl)
      clear hj
      go_wp2_with (go_at_call 139; refine J.out.mono ?_; rintro e w2 ⟨rfl, hn2⟩; have HN2 := Lib.hid hn2; clear hn2)
      go_roundw
      case rel => exact ⟨j, by omega, by go_num, Lib.hid (by have := HN2.out; rw [HJ.out] at this ⊢; exact this)⟩
      case measure => simp [intOf]; omega
    · have hli : ¬ (j : Int) < (m : Int) := by omega
      have HE : Hid (k = n) := Lib.hid (by have := HME.out; omega)
      clear hj
      go_wp2_with (go_at_call 118; refine (HN.out.graph m16 (HT.out.keep HN.out.bel)).mono ?_; rintro e w8 ⟨p8, c8, rfl, hd8, hb8⟩; obtain ⟨mc, mf, ml, mB⟩ := (HR.out.keep HN.out.bel).keep hb8)
      have s8 := HN.out.bel.size
      have s0 := HB.out.size
      rw [HE.out] at hd8
      refine bodyPost_ret (v := .tuple #[.agg #[.slice p8 m c8], .bool true]) (by simp [results, Tryd.results55, go_sem, mc]) rfl ⟨p8, c8, rfl, ?_, ?_⟩
      · exact (hd8.setBox ⟨mc, mf, ml, mB⟩ _).base (by omega)
      · exact (HB.out.trans ((HN.out.bel.trans (hb8.mono (by omega))).mono (by omega))).setCell (by show w.heap.size ≤ w.heap.size; omega) _

end Go.Proofs.YtkppbmfliejnmaaDoor

/- Walks: marking a graph; what stays apart from it. -/
namespace Go.Proofs.YtkppbmfliejnmaaDoor
open Go.RowKit

/-- Only blocks from lo on and below hi have turned. -/
structure Apart (lo hi : Nat) (w w' : World) : Prop where
  os : w'.os = w.os
  tape : w'.tape = w.tape
  output : w'.output = w.output
  size : w.heap.size ≤ w'.heap.size
  block : ∀ b, b < w.heap.size → (b < lo ∨ hi ≤ b) → w'.heap[b]? = w.heap[b]?

theorem Apart.refl (lo hi : Nat) (w : World) : Apart lo hi w w := ⟨rfl, rfl, rfl, Nat.le_refl _, fun _ _ _ => rfl⟩
theorem Apart.trans {lo hi : Nat} {a b c : World} (h : Apart lo hi a b) (k : Apart lo hi b c) : Apart lo hi a c :=
  ⟨k.os.trans h.os, k.tape.trans h.tape, k.output.trans h.output, Nat.le_trans h.size k.size, fun i hi hn => (k.block i (Nat.lt_of_lt_of_le hi h.size) hn).trans (h.block i hi hn)⟩
theorem Apart.of_below {lo hi : Nat} {w w' : World} (h : Below w.heap.size w w') : Apart lo hi w w' := ⟨h.os, h.tape, h.output, h.size, fun b hb _ => h.block b hb⟩
theorem Apart.below {lo hi : Nat} {w w' : World} (h : Apart lo hi w w') (hl : lo ≤ w.heap.size) : Below lo w w' := ⟨h.os, h.tape, h.output, h.size, fun b hb => h.block b (by omega) (.inl hb)⟩
theorem Apart.of_grown {lo hi : Nat} {w w' : World} {base : Nat} {E : TypeId} {size n : Nat} {v : Value} {xs : List Value} (ho : w.ownsRow base E size v n xs) (hg : w.grownBy w' v.ownBlock) (h1 : lo ≤ base) (h2 : ∀ k, v.ownBlock = some k → k < hi) : Apart lo hi w w' :=
  ⟨hg.os, hg.tape, hg.output, hg.size, fun b hb hx => hg.block b hb fun e => by
    have h3 := (ho.lt b e.symm).1
    have h4 := h2 b e.symm
    omega⟩

theorem ownsRow_apart_lo {lo hi : Nat} {w w' : World} {base : Nat} {E : TypeId} {size n : Nat} {v : Value} {xs : List Value} (h : w.ownsRow base E size v n xs) (ha : Apart lo hi w w') (hl : ∀ k, v.ownBlock = some k → k < lo) : w'.ownsRow base E size v n xs := by
  refine ⟨h.1, ?_⟩
  rcases h.2 with h2 | ⟨g, cap, cur, h1, h2, h3, h4⟩
  · exact .inl h2
  · exact .inr ⟨g, cap, cur, h1, h2, (ha.block g (Array.getElem?_eq_some_iff.1 h3).1 (.inl (hl g (by rw [h1]; rfl)))).trans h3, h4⟩
theorem ownsRow_apart_hi {lo hi : Nat} {w w' : World} {base : Nat} {E : TypeId} {size n : Nat} {v : Value} {xs : List Value} (h : w.ownsRow base E size v n xs) (ha : Apart lo hi w w') (hl : hi ≤ base) : w'.ownsRow base E size v n xs := by
  refine ⟨h.1, ?_⟩
  rcases h.2 with h2 | ⟨g, cap, cur, h1, h2, h3, h4⟩
  · exact .inl h2
  · exact .inr ⟨g, cap, cur, h1, h2, (ha.block g (Array.getElem?_eq_some_iff.1 h3).1 (.inr (by omega))).trans h3, h4⟩

/-- A row, whatever it holds, behind a write to a row of the same kind. -/
theorem ownsRow_some {w w' : World} {base : Nat} {E : TypeId} {n m : Nat} {v u : Value} {ys zs zs' : List Value} (h : w.ownsRow base E 1 v n ys)
    (ho : w.ownsRow base E 1 u m zs) (ho' : w'.ownsRow base E 1 u m zs') (hg : w.grownBy w' u.ownBlock) : ∃ ys', w'.ownsRow base E 1 v n ys' := by
  rcases h.2 with ⟨rfl, rfl⟩ | ⟨g, cap, cur, rfl, hb, hgg, hnc, hcm, hcs, ht⟩
  · exact ⟨[], World.ownsRow_nil _ _ _ _⟩
  · by_cases e : u.ownBlock = some g
    · rcases ho.2 with ⟨rfl, rfl⟩ | ⟨g1, cap1, cur1, rfl, _, hg1, _, _, hcs1, _⟩
      · simp [Value.ownBlock] at e
      · simp [Value.ownBlock] at e
        subst e
        rcases ho'.2 with ⟨h', _⟩ | ⟨g2, cap2, cur2, h2, hb2, hg2, _, _, hcs2, _⟩
        · simp at h'
        · simp only [Value.slice.injEq, Option.some.injEq, Addr.mk.injEq, and_true, true_and] at h2
          obtain ⟨rfl, rfl⟩ := h2
          rw [hgg] at hg1
          simp only [Option.some.injEq, Obj.cells.injEq] at hg1
          have hcc : cur2.size = cap * 1 := by rw [hcs2, ← hcs1, ← hg1.1, hcs]
          refine ⟨cur2.toList.take (n * 1), by rw [List.length_take, Array.length_toList]; omega, .inr ⟨g1, cap, cur2, rfl, hb, hg2, hnc, hcm, hcc, rfl⟩⟩
    · exact ⟨ys, h.kept hg (.inr (by simp only [Value.ownBlock]; exact fun q => e q.symm))⟩

/-- A graph in blocks from lo on and below hi. -/
def InG (w : World) (lo hi : Nat) (v : Value) (g : List (List Int)) : Prop :=
  ∃ u vals, v = .agg #[u] ∧ vals.length = g.length ∧ w.ownsRow lo 33 1 u g.length vals ∧ (∀ b, u.ownBlock = some b → b < hi) ∧
    ∀ j, j < g.length → w.ownsRow lo 2 1 (vals.getD j undef) (row g j).length ((row g j).map (Value.int .i64)) ∧ ∀ b, (vals.getD j undef).ownBlock = some b → b < hi

theorem InG.of_own {w : World} {lo : Nat} {v : Value} {g : List (List Int)} (h : OwnG w lo v g) : InG w lo w.heap.size v g := by
  obtain ⟨u, rfl, vals, h1, h2, h3⟩ := h
  exact ⟨u, vals, rfl, h1, h2, fun b hb => (h2.lt b hb).2, fun j hj => ⟨h3 j hj, fun b hb => ((h3 j hj).lt b hb).2⟩⟩
theorem InG.below {w w' : World} {lo hi : Nat} {v : Value} {g : List (List Int)} (h : InG w lo hi v g) (hb : Below w.heap.size w w') : InG w' lo hi v g := by
  obtain ⟨u, vals, h0, h1, h2, h3, h4⟩ := h
  exact ⟨u, vals, h0, h1, ownsRow_below h2 hb, h3, fun j hj => ⟨ownsRow_below (h4 j hj).1 hb, (h4 j hj).2⟩⟩
theorem InG.own {w : World} {lo hi : Nat} {v : Value} {g : List (List Int)} (h : InG w lo hi v g) : OwnG w lo v g := by
  obtain ⟨u, vals, h0, h1, h2, h3, h4⟩ := h
  exact ⟨u, h0, vals, h1, h2, fun j hj => (h4 j hj).1⟩

end Go.Proofs.YtkppbmfliejnmaaDoor

/- Small laws on what a law's walk compares. -/
namespace Go.Proofs.YtkppbmfliejnmaaDoor
open Go.RowKit

theorem OwnG.shape {w : World} {base : Nat} {v : Value} {g : List (List Int)} (h : OwnG w base v g) : ∃ p c, v = .agg #[.slice p g.length c] := by
  obtain ⟨u, rfl, vals, _, h2, _⟩ := h
  rcases h2.2 with ⟨rfl, h0⟩ | ⟨b, c, _, rfl, _⟩
  · exact ⟨none, 0, by rw [h0]⟩
  · exact ⟨_, _, rfl⟩
theorem owns_shape {w : World} {base : Nat} {E : TypeId} {size n : Nat} {v : Value} {xs : List Value} (h : w.ownsRow base E size v n xs) : ∃ p c, v = .slice p n c := by
  rcases h.2 with ⟨rfl, rfl⟩ | ⟨b, c, _, rfl, _⟩
  · exact ⟨none, 0, rfl⟩
  · exact ⟨_, _, rfl⟩
end Go.Proofs.YtkppbmfliejnmaaDoor
