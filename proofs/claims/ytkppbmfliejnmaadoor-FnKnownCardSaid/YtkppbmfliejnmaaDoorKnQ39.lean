/- Walk: the reference's graph of pairs (printed in part by wip/mkKn.py). -/
import Derived.Test.YtkppbmfliejnmaaDoorKnQ38
import Derived.Test.YtkppbmfliejnmaaDoorKnQ4
import Derived.Test.YtkppbmfliejnmaaDoorKnQ16
namespace Go.Proofs.YtkppbmfliejnmaaDoor
open Go.RowKit

set_option maxRecDepth 100000 in
set_option maxHeartbeats 4000000 in
theorem specKneser_no (n : Int) (hno : ¬ KnOk n) (w : World) :
    Calls Tryd.prog 67 #[.int .i64 n] w fun e w' => e = .returned (.tuple #[.agg #[.slice none 0 0], .bool false]) ∧ Below w.heap.size w w' := by
  have HB := Lib.hid (below_alloc w (.cells #[.slice none 0 0] 29))
  have HX := Lib.hid (Box.new w (.slice none 0 0) 29)
  obtain ⟨nc, nf, nl, nB⟩ := id HX.out
  have HD1 := Lib.hid (dec_false (show ¬ (4 ≤ n ∧ n ≤ 6) from hno))
  clear hno
  go_enter Tryd.func67, Tryd.ntmps67
  go_wp2_with (go_at_call 153; refine (l1In_any _ _ _ _).mono ?_; rintro e w2 ⟨he, rfl⟩; rw [HD1.out] at he; subst he)
  exact bodyPost_ret (v := .tuple #[.agg #[.slice none 0 0], .bool false]) (by simp [results, Tryd.results67, go_sem, nc]) rfl ⟨rfl, by first | exact HB.out | exact HB.out.setCell (by show w.heap.size ≤ w.heap.size; omega) _⟩

set_option maxRecDepth 100000 in
set_option maxHeartbeats 8000000 in
theorem specKneser_yes (n m : Nat) (hn1 : 4 ≤ n) (hn6 : n ≤ 6) (hm : (pairsK n).length = m) (hm1 : 1 ≤ m) (hm16 : m ≤ 16) (w : World) :
    Calls Tryd.prog 67 #[.int .i64 (n : Int)] w fun e w' => ∃ (p : Option Addr) (c : Nat), e = .returned (.tuple #[.agg #[.slice p m c], .bool true]) ∧ DG w' w.heap.size (.agg #[.slice p m c]) (matG m (knE n)) ∧ Below w.heap.size w w' := by
  obtain ⟨w1, hw1⟩ : ∃ w1, w1 = w.alloc (.cells #[.slice none 0 0] 29) := ⟨_, rfl⟩
  have HR : Hid (Box w1 w.heap.size 29 (.slice none 0 0)) := Lib.hid (by rw [hw1]; exact Box.new _ _ _)
  have HB : Hid (Below w.heap.size w w1) := Lib.hid (by rw [hw1]; exact below_alloc _ _)
  have HD1 := Lib.hid (dec_true (show (4 : Int) ≤ (n : Int) ∧ (n : Int) ≤ 6 from ⟨by omega, by omega⟩))
  have HSY := Lib.hid (symE_of (m := m) (knE_sym n) (knE_irr n))
  have HPL : Hid (∀ v u, v ≤ n → u ≤ v → (pairsK v ++ pairsU v u).length ≤ 100) := Lib.hid (fun v u hv hu => by
    rw [List.length_append, pairsU_len]
    have h1 := pairsK_le hv
    have h2 : n * n ≤ 6 * 6 := Nat.mul_le_mul hn6 hn6
    omega)
  have HM := Lib.hid hm
  have E1 : Hid (pairsK 1 ++ pairsU 1 0 = []) := Lib.hid (by decide)
  clear hm
  go_enter Tryd.func67, Tryd.ntmps67
  go_upto_region 1 with fail
  rw [← hw1]
  clear hw1
  have START : Hid (PrsO (w1.alloc (.cells #[] 33)) w1.heap.size (.slice (some ⟨w1.heap.size, 0, none⟩) 0 0) (pairsK 1 ++ pairsU 1 0)) := Lib.hid (by rw [E1.out]; exact PrsO.nil w1 _ (Nat.le_refl _))
  go_wp2_with (go_at_call 153; refine (l1In_any _ _ _ _).mono ?_; rintro e w2 ⟨he, rfl⟩; rw [HD1.out] at he; subst he)
  go_loopw [4, 5, 6] (fun ov iv _ wr => ∃ v : Nat, 1 ≤ v ∧ v ≤ n ∧ iv = .int .i64 (v : Int) ∧ Hid (PrsO wr w1.heap.size ov (pairsK v ++ pairsU v 0)) ∧ Below w1.heap.size w1 wr) (fun _ iv _ _ => n - (intOf iv).toNat)
  case atStart => exact ⟨1, Nat.le_refl _, by omega, rfl, START, below_alloc _ _⟩
  case round =>
    clear START
    obtain ⟨v, hv1, hv, rfl, HP, hb⟩ := hrel
    have HBB := Lib.hid hb
    clear hb
    obtain ⟨ep, ec, rfl⟩ := HP.out.shape
    by_cases hlt : v < n
    · have hvi : (v : Int) < (n : Int) := by omega
      go_wp2_with fail
      go_loopw [4, 6] (fun ov iv wx => ∃ u : Nat, u ≤ v ∧ iv = .int .i64 (u : Int) ∧ Hid (PrsO wx w1.heap.size ov (pairsK v ++ pairsU v u)) ∧ Below w1.heap.size w1 wx) (fun _ iv _ => v - (intOf iv).toNat)
      case atStart => exact ⟨0, Nat.zero_le _, rfl, HP, HBB.out⟩
      case round =>
        clear HP HBB
        obtain ⟨u, hu, rfl, HP, hb⟩ := hrel
        have HBB := Lib.hid hb
        have hsz := hb.size
        clear hb
        obtain ⟨ep, ec, rfl⟩ := HP.out.shape
        obtain ⟨ln, hln⟩ : ∃ ln, ln = (pairsK v ++ pairsU v u).length := ⟨_, rfl⟩
        have hl100 := HPL.out v u hv hu
        rw [← hln] at hl100 ⊢
        have HLN := Lib.hid hln
        by_cases hul : u < v
        · have hui : (u : Int) < (v : Int) := by omega
          obtain ⟨vals, hv1', hv2, hv3⟩ := HP.out
          rw [← hln] at hv2 hv1'
          have HV1 := Lib.hid hv1'
          have HV3 := Lib.hid hv3
          have HV2 := Lib.hid hv2
          clear hv1' hv3 hln
          go_wp2_with (at_builtin; refine wpList_app1s ty_rows64 rfl rfl rfl (hv2.alloc (.cells #[.int .i64 (u : Int), .int .i64 (v : Int)] 2)) (by rw [size_alloc]; rfl) rfl (by omega) (by rw [size_alloc]; omega) ?_; intro b7 c8 w7 hown7 hg7 _)
          go_roundw
          case rel =>
            have ha := below_alloc wr (.cells #[.int .i64 (u : Int), .int .i64 (v : Int)] 2)
            have hrow : Nums (wr.alloc (.cells #[.int .i64 (u : Int), .int .i64 (v : Int)] 2)) 2 .i64 (.slice (some ⟨wr.heap.size, 0, none⟩) 2 2) [(u : Int), (v : Int)] :=
              Nums.of_owns (World.ownsRow_lit (size := 1) wr #[.int .i64 (u : Int), .int .i64 (v : Int)] 2 (Nat.le_refl wr.heap.size) (by decide) rfl) rfl (by decide)
            refine ⟨u + 1, by omega, by go_num, Lib.hid ?_, below_grown (HBB.out.trans (ha.mono HBB.out.size)) (HV2.out.alloc _) hg7 (Nat.le_refl _) (by rw [size_alloc]; omega)⟩
            rw [pairsU_succ, ← List.append_assoc]
            have h2 : (wr.alloc (.cells #[.int .i64 (u : Int), .int .i64 (v : Int)] 2)).ownsRow w1.heap.size 33 1 (.slice ep ln ec) (pairsK v ++ pairsU v u).length vals := by rw [← HLN.out]; exact HV2.out.alloc _
            exact PrsO.snoc (e := (u, v)) (by rw [← HLN.out]; exact HV1.out) h2 (fun j hj => (HV3.out j (by rw [← HLN.out] at hj ⊢; exact hj)).below ha) (by rw [← HLN.out]; exact hown7) hg7 hrow
          case measure => simp [intOf]; omega
        · obtain rfl : u = v := by omega
          go_wp2_with fail
          go_roundw
          case rel => exact ⟨u + 1, by omega, by omega, by go_num, Lib.hid (by
            have e : pairsK (u + 1) ++ pairsU (u + 1) 0 = pairsK u ++ pairsU u u := by rw [pairsK_succ]; simp [pairsU]
            rw [e]
            have := HP.out
            rw [← HLN.out] at this
            exact this), HBB.out⟩
          case measure => simp [intOf]; omega
    · obtain rfl : v = n := by omega
      have e0 : pairsK v ++ pairsU v 0 = pairsK v := by simp [pairsU]
      rw [e0] at HP ⊢
      rw [HM.out]
      have HPP := Lib.hid HP.out
      obtain ⟨ep', ec', hep'⟩ := HP.out.shape
      have HWW := Lib.hid (HB.out.trans (HBB.out.mono HB.out.size))
      have HRR := Lib.hid (HR.out.keep HBB.out)
      have s1 := HWW.out.size
      obtain ⟨wo, hwo⟩ : ∃ wo, wo = wr := ⟨_, rfl⟩
      rw [← hwo] at HPP HWW HRR HBB s1 ⊢
      clear hwo HP hep' e0
      go_upto_region 12 with (go_at_call 157; refine (l1EmptyD_any _ m rfl (by omega) _).mono ?_; rintro e w2 ⟨u, rfl, hs2, hb2⟩; obtain ⟨p, c, rfl⟩ := hs2.shape; rw [List.length_replicate] at hs2 ⊢)
      have START : Hid (LdI wo (w2.alloc (.cells #[.slice p m c] 29)) wo.heap.size w2.heap.size p c m (matG m (uptoE (knE v) 0 0))) := Lib.hid
        ⟨by rw [upto_start]; exact hs2.below (below_alloc _ _), hb2.alloc hb2.size _, Box.new _ _ _, hs2.lt, Nat.le_refl _, hb2.size⟩
      generalize w2.alloc (.cells #[.slice p m c] 29) = w3 at START ⊢
      generalize w2.heap.size = b5 at START ⊢
      clear hs2 hb2
      go_wp2_with fail
      go_loopw [8, 9] (fun iv _ wr => ∃ i : Nat, i ≤ m ∧ iv = .int .i64 (i : Int) ∧ Hid (LdI wo wr wo.heap.size b5 p c m (matG m (uptoE (knE v) i 0)))) (fun iv _ _ => m - (intOf iv).toNat)
      case atStart => exact ⟨0, Nat.zero_le _, rfl, START⟩
      case round =>
        clear START
        obtain ⟨i, hi, rfl, HI⟩ := hrel
        have cb := HI.out.box.cell
        have HGI : Hid (Gr wr (.agg #[.slice p m c]) (matG m (uptoE (knE v) i 0))) := Lib.hid (HI.out.dg.gr (by rw [matG_length]; omega) (fun j _ => Nat.le_trans (matG_row_le j) (by omega)))
        have SZ : Hid (∀ wz, Gr wz (.agg #[.slice p m c]) (matG m (uptoE (knE v) i 0)) → Calls Tryd.prog 132 #[.agg #[.slice p m c]] wz fun e w' => e = .returned (.int .i64 (m : Int)) ∧ Below wz.heap.size wz w') := Lib.hid (fun wz hz => by
          have := l1Size_any _ _ wz hz
          rw [matG_length] at this
          exact this)
        by_cases him : i < m
        · have hii : (i : Int) < (m : Int) := by omega
          go_wp2_with (go_at_call 132; refine (SZ.out _ HGI.out).mono ?_; rintro e w4 ⟨rfl, hb4⟩; have HI4 := Lib.hid (HI.out.next hb4); clear hb4)
          clear cb
          go_loopw [9] (fun kv wy => ∃ k : Nat, k ≤ i ∧ kv = .int .i64 (k : Int) ∧ Hid (LdI wo wy wo.heap.size b5 p c m (matG m (uptoE (knE v) i k)))) (fun kv _ => i - (intOf kv).toNat)
          case atStart => exact ⟨0, Nat.zero_le _, rfl, HI4⟩
          case round =>
            clear HI HI4 HGI SZ
            obtain ⟨k, hk, rfl, HI⟩ := hrel
            by_cases hkl : k < i
            · have hki : (k : Int) < (i : Int) := by omega
              have hkm : k < m := by omega
              have HPR := Lib.hid (HPP.out.below HI.out.bel)
              have hil : i < (pairsK v).length := by rw [HM.out]; exact him
              have hkl2 : k < (pairsK v).length := by rw [HM.out]; exact hkm
              obtain ⟨qb, qo, vp0, vc, hqp, cv, hnv⟩ := HPR.out.get hil
              subst hqp
              obtain ⟨_, _, up0, uc, e1, cu, hnu⟩ := HPR.out.get hkl2
              cases e1
              obtain ⟨⟨va, vd⟩, hve⟩ : ∃ e : Nat × Nat, e = (pairsK v)[i] := ⟨_, rfl⟩
              obtain ⟨⟨ua, ud⟩, hue⟩ : ∃ e : Nat × Nat, e = (pairsK v)[k] := ⟨_, rfl⟩
              rw [← hve] at hnv
              rw [← hue] at hnu
              simp only at hnv hnu
              obtain ⟨vb, vo, hvp, ca⟩ := hnv.get (k := 0) (by simp)
              subst hvp
              obtain ⟨_, _, e1, cd⟩ := hnv.get (k := 1) (by simp)
              cases e1
              obtain ⟨ub, uo, hup, _⟩ := hnu.get (k := 0) (by simp)
              subst hup
              simp only [List.getElem_cons_zero, List.getElem_cons_succ, Nat.add_zero] at ca cd
              have HNU := Lib.hid hnu
              have HBD := Lib.hid (below_dN (Below.refl wr.heap.size wr) 1)
              have HKE : Hid (knE v i k = offK (va, vd) (ua, ud)) := Lib.hid (by rw [knE_at hil hkl2, hve, hue])
              clear hnv hnu hve hue hil hkl2
              go_upto_region 18 with fail
              go_cut [70] (fun s wx => s = .bool (knE v i k) ∧ Below wr.heap.size wr wx)
              case first =>
                by_cases hA : va = ua ∨ va = ud
                · have HDA := Lib.hid (dec_true (show (va : Int) ∈ [(ua : Int), (ud : Int)] by simp; omega))
                  have hf : knE v i k = false := by
                    rw [HKE.out]
                    unfold offK
                    rcases hA with h | h <;> simp [h]
                  have HF := Lib.hid hf
                  clear hf hA
                  refine wp_region_held_drew (S := (fun w' => w'.cell? ⟨qb, qo + k, none⟩ = some (.slice (some ⟨ub, uo, none⟩) 2 uc) ∧ w'.cell? ⟨qb, qo + i, none⟩ = some (.slice (some ⟨vb, vo, none⟩) 2 vc) ∧ w'.cell? ⟨vb, vo, none⟩ = some (.int .i64 (va : Int)) ∧ w'.cell? ⟨vb, vo + 1, none⟩ = some (.int .i64 (vd : Int)))) (by kernel_rfl) ?_ (fun hHeld => ?_)
                  · exact ⟨cu, cv, ca, cd⟩
                  refine wpAnyH_take (i := 0) (v := .slice (some ⟨qb, qo, none⟩) m ec) rfl (by kernel_rfl) (by kernel_rfl) (by kernel_rfl) (fun _ _ _ h => h) (Or.inl ⟨by rfl, ?_⟩) (by assumption) ?_
                  · intro wz hSw; (try dsimp only at hSw); go_simp; try rfl
                  try simp only [Act.put, List.getElem_toArray, List.getElem_cons_succ, List.getElem_cons_zero, List.setIfInBounds_toArray, List.set_cons_zero, List.set_cons_succ]
                  refine wpAnyH_take (i := 1) (v := .int .i64 (k : Int)) rfl (by kernel_rfl) (by kernel_rfl) (by kernel_rfl) (fun _ _ _ h => h) (Or.inl ⟨by rfl, ?_⟩) (by assumption) ?_
                  · intro wz hSw; (try dsimp only at hSw); go_simp; try rfl
                  try simp only [Act.put, List.getElem_toArray, List.getElem_cons_succ, List.getElem_cons_zero, List.setIfInBounds_toArray, List.set_cons_zero, List.set_cons_succ]
                  refine wpAnyH_take (i := 2) (v := .pointer (some ⟨qb, qo + k, none⟩)) rfl (by kernel_rfl) (by kernel_rfl) (by kernel_rfl) (fun _ _ _ h => h) (Or.inl ⟨by rfl, ?_⟩) (by assumption) ?_
                  · intro wz hSw; (try dsimp only at hSw); go_simp; try rfl
                  try simp only [Act.put, List.getElem_toArray, List.getElem_cons_succ, List.getElem_cons_zero, List.setIfInBounds_toArray, List.set_cons_zero, List.set_cons_succ]
                  refine wpAnyH_take (i := 3) (v := .slice (some ⟨ub, uo, none⟩) 2 uc) rfl (by kernel_rfl) (by kernel_rfl) (by kernel_rfl) (fun _ _ _ h => h) (Or.inl ⟨by rfl, ?_⟩) (by assumption) ?_
                  · intro wz hSw; (try dsimp only at hSw); go_simp; try rfl
                  try simp only [Act.put, List.getElem_toArray, List.getElem_cons_succ, List.getElem_cons_zero, List.setIfInBounds_toArray, List.set_cons_zero, List.set_cons_succ]
                  refine wpAnyH_take (i := 4) (v := .slice (some ⟨qb, qo, none⟩) m ec) rfl (by kernel_rfl) (by kernel_rfl) (by kernel_rfl) (fun _ _ _ h => h) (Or.inl ⟨by rfl, ?_⟩) (by assumption) ?_
                  · intro wz hSw; (try dsimp only at hSw); go_simp; try rfl
                  try simp only [Act.put, List.getElem_toArray, List.getElem_cons_succ, List.getElem_cons_zero, List.setIfInBounds_toArray, List.set_cons_zero, List.set_cons_succ]
                  refine wpAnyH_take (i := 5) (v := .int .i64 (i : Int)) rfl (by kernel_rfl) (by kernel_rfl) (by kernel_rfl) (fun _ _ _ h => h) (Or.inl ⟨by rfl, ?_⟩) (by assumption) ?_
                  · intro wz hSw; (try dsimp only at hSw); go_simp; try rfl
                  try simp only [Act.put, List.getElem_toArray, List.getElem_cons_succ, List.getElem_cons_zero, List.setIfInBounds_toArray, List.set_cons_zero, List.set_cons_succ]
                  refine wpAnyH_take (i := 6) (v := .pointer (some ⟨qb, qo + i, none⟩)) rfl (by kernel_rfl) (by kernel_rfl) (by kernel_rfl) (fun _ _ _ h => h) (Or.inl ⟨by rfl, ?_⟩) (by assumption) ?_
                  · intro wz hSw; (try dsimp only at hSw); go_simp; try rfl
                  try simp only [Act.put, List.getElem_toArray, List.getElem_cons_succ, List.getElem_cons_zero, List.setIfInBounds_toArray, List.set_cons_zero, List.set_cons_succ]
                  refine wpAnyH_take (i := 7) (v := .slice (some ⟨vb, vo, none⟩) 2 vc) rfl (by kernel_rfl) (by kernel_rfl) (by kernel_rfl) (fun _ _ _ h => h) (Or.inl ⟨by rfl, ?_⟩) (by assumption) ?_
                  · intro wz hSw; (try dsimp only at hSw); go_simp; try rfl
                  try simp only [Act.put, List.getElem_toArray, List.getElem_cons_succ, List.getElem_cons_zero, List.setIfInBounds_toArray, List.set_cons_zero, List.set_cons_succ]
                  refine wpAnyH_take (i := 8) (v := .pointer (some ⟨vb, vo, none⟩)) rfl (by kernel_rfl) (by kernel_rfl) (by kernel_rfl) (fun _ _ _ h => h) (Or.inl ⟨by rfl, ?_⟩) (by assumption) ?_
                  · intro wz hSw; (try dsimp only at hSw); go_simp; try rfl
                  try simp only [Act.put, List.getElem_toArray, List.getElem_cons_succ, List.getElem_cons_zero, List.setIfInBounds_toArray, List.set_cons_zero, List.set_cons_succ]
                  refine wpAnyH_take (i := 9) (v := .int .i64 (va : Int)) rfl (by kernel_rfl) (by kernel_rfl) (by kernel_rfl) (fun _ _ _ h => h) (Or.inl ⟨by rfl, ?_⟩) (by assumption) ?_
                  · intro wz hSw; (try dsimp only at hSw); go_simp; try rfl
                  try simp only [Act.put, List.getElem_toArray, List.getElem_cons_succ, List.getElem_cons_zero, List.setIfInBounds_toArray, List.set_cons_zero, List.set_cons_succ]
                  refine wpAnyH_ready (rs := [10]) (by kernel_rfl) (by simp) ?_
                  refine AllReadyH.cons rfl (fun K hK => ?_) AllReadyH.nil
                  go_simp
                  go_at_call 158
                  refine (l1Has_any _ [(ua : Int), (ud : Int)] (va : Int) _ (by first | exact HNU.out.below (below_dN (Below.refl _ _) 1) | exact HNU.out)).mono ?_
                  rintro e wx ⟨he, hw⟩
                  rw [HDA.out] at he
                  subst he
                  subst hw
                  refine hK.out _ _ ?_ (fun hHeld => ?_)
                  · first | exact ⟨HBD.out.at' cu, HBD.out.at' cv, HBD.out.at' ca, HBD.out.at' cd⟩ | exact ⟨cu, cv, ca, cd⟩
                  clear hK K
                  try simp only [Act.put, List.getElem_toArray, List.getElem_cons_succ, List.getElem_cons_zero, List.setIfInBounds_toArray, List.set_cons_zero, List.set_cons_succ]
                  refine wpAnyH_take (i := 11) (v := .bool false) rfl (by kernel_rfl) (by kernel_rfl) (by kernel_rfl) (fun _ _ _ h => h) (Or.inl ⟨by rfl, ?_⟩) (by assumption) ?_
                  · intro wz hSw; (try dsimp only at hSw); go_simp; try rfl
                  try simp only [Act.put, List.getElem_toArray, List.getElem_cons_succ, List.getElem_cons_zero, List.setIfInBounds_toArray, List.set_cons_zero, List.set_cons_succ]
                  refine wpAnyH_take (i := 12) (v := .bool false) rfl (by kernel_rfl) (by kernel_rfl) (by kernel_rfl) (fun _ _ _ h => h) (Or.inl ⟨by rfl, ?_⟩) (by assumption) ?_
                  · intro wz hSw; (try dsimp only at hSw); go_simp; try rfl
                  try simp only [Act.put, List.getElem_toArray, List.getElem_cons_succ, List.getElem_cons_zero, List.setIfInBounds_toArray, List.set_cons_zero, List.set_cons_succ]
                  refine wpAnyH_take (i := 13) (v := undef) rfl (by kernel_rfl) (by kernel_rfl) (by kernel_rfl) (fun _ _ _ h => h) (Or.inr ⟨by kernel_rfl, rfl⟩) (by assumption) ?_
                  try simp only [Act.put, List.getElem_toArray, List.getElem_cons_succ, List.getElem_cons_zero, List.setIfInBounds_toArray, List.set_cons_zero, List.set_cons_succ]
                  refine wpAnyH_take (i := 14) (v := undef) rfl (by kernel_rfl) (by kernel_rfl) (by kernel_rfl) (fun _ _ _ h => h) (Or.inr ⟨by kernel_rfl, rfl⟩) (by assumption) ?_
                  try simp only [Act.put, List.getElem_toArray, List.getElem_cons_succ, List.getElem_cons_zero, List.setIfInBounds_toArray, List.set_cons_zero, List.set_cons_succ]
                  refine wpAnyH_take (i := 15) (v := undef) rfl (by kernel_rfl) (by kernel_rfl) (by kernel_rfl) (fun _ _ _ h => h) (Or.inr ⟨by kernel_rfl, rfl⟩) (by assumption) ?_
                  try simp only [Act.put, List.getElem_toArray, List.getElem_cons_succ, List.getElem_cons_zero, List.setIfInBounds_toArray, List.set_cons_zero, List.set_cons_succ]
                  refine wpAnyH_take (i := 16) (v := undef) rfl (by kernel_rfl) (by kernel_rfl) (by kernel_rfl) (fun _ _ _ h => h) (Or.inr ⟨by kernel_rfl, rfl⟩) (by assumption) ?_
                  try simp only [Act.put, List.getElem_toArray, List.getElem_cons_succ, List.getElem_cons_zero, List.setIfInBounds_toArray, List.set_cons_zero, List.set_cons_succ]
                  refine wpAnyH_take (i := 17) (v := undef) rfl (by kernel_rfl) (by kernel_rfl) (by kernel_rfl) (fun _ _ _ h => h) (Or.inr ⟨by kernel_rfl, rfl⟩) (by assumption) ?_
                  try simp only [Act.put, List.getElem_toArray, List.getElem_cons_succ, List.getElem_cons_zero, List.setIfInBounds_toArray, List.set_cons_zero, List.set_cons_succ]
                  refine wpAnyH_take (i := 18) (v := undef) rfl (by kernel_rfl) (by kernel_rfl) (by kernel_rfl) (fun _ _ _ h => h) (Or.inr ⟨by kernel_rfl, rfl⟩) (by assumption) ?_
                  try simp only [Act.put, List.getElem_toArray, List.getElem_cons_succ, List.getElem_cons_zero, List.setIfInBounds_toArray, List.set_cons_zero, List.set_cons_succ]
                  refine wpAnyH_take (i := 19) (v := undef) rfl (by kernel_rfl) (by kernel_rfl) (by kernel_rfl) (fun _ _ _ h => h) (Or.inr ⟨by kernel_rfl, rfl⟩) (by assumption) ?_
                  try simp only [Act.put, List.getElem_toArray, List.getElem_cons_succ, List.getElem_cons_zero, List.setIfInBounds_toArray, List.set_cons_zero, List.set_cons_succ]
                  refine wpAnyH_take (i := 20) (v := undef) rfl (by kernel_rfl) (by kernel_rfl) (by kernel_rfl) (fun _ _ _ h => h) (Or.inr ⟨by kernel_rfl, rfl⟩) (by assumption) ?_
                  try simp only [Act.put, List.getElem_toArray, List.getElem_cons_succ, List.getElem_cons_zero, List.setIfInBounds_toArray, List.set_cons_zero, List.set_cons_succ]
                  refine wpAnyH_take (i := 21) (v := undef) rfl (by kernel_rfl) (by kernel_rfl) (by kernel_rfl) (fun _ _ _ h => h) (Or.inr ⟨by kernel_rfl, rfl⟩) (by assumption) ?_
                  try simp only [Act.put, List.getElem_toArray, List.getElem_cons_succ, List.getElem_cons_zero, List.setIfInBounds_toArray, List.set_cons_zero, List.set_cons_succ]
                  refine wpAnyH_take (i := 22) (v := undef) rfl (by kernel_rfl) (by kernel_rfl) (by kernel_rfl) (fun _ _ _ h => h) (Or.inr ⟨by kernel_rfl, rfl⟩) (by assumption) ?_
                  try simp only [Act.put, List.getElem_toArray, List.getElem_cons_succ, List.getElem_cons_zero, List.setIfInBounds_toArray, List.set_cons_zero, List.set_cons_succ]
                  refine wpAnyH_take (i := 23) (v := undef) rfl (by kernel_rfl) (by kernel_rfl) (by kernel_rfl) (fun _ _ _ h => h) (Or.inr ⟨by kernel_rfl, rfl⟩) (by assumption) ?_
                  try simp only [Act.put, List.getElem_toArray, List.getElem_cons_succ, List.getElem_cons_zero, List.setIfInBounds_toArray, List.set_cons_zero, List.set_cons_succ]
                  refine wpAnyH_take (i := 24) (v := undef) rfl (by kernel_rfl) (by kernel_rfl) (by kernel_rfl) (fun _ _ _ h => h) (Or.inr ⟨by kernel_rfl, rfl⟩) (by assumption) ?_
                  try simp only [Act.put, List.getElem_toArray, List.getElem_cons_succ, List.getElem_cons_zero, List.setIfInBounds_toArray, List.set_cons_zero, List.set_cons_succ]
                  refine wpAnyH_take (i := 25) (v := .bool false) rfl (by kernel_rfl) (by kernel_rfl) (by kernel_rfl) (fun _ _ _ h => h) (Or.inl ⟨by rfl, ?_⟩) (by assumption) ?_
                  · intro wz hSw; (try dsimp only at hSw); go_simp; try rfl
                  try simp only [Act.put, List.getElem_toArray, List.getElem_cons_succ, List.getElem_cons_zero, List.setIfInBounds_toArray, List.set_cons_zero, List.set_cons_succ]
                  refine wpAnyH_done (by kernel_rfl) ?_ _
                  go_wp2
                  go_meet
                  exact ⟨by rw [HF.out], below_dN (Below.refl _ _) 1⟩
                · have HDA := Lib.hid (dec_false (show ¬ (va : Int) ∈ [(ua : Int), (ud : Int)] by simp; omega))
                  obtain ⟨bb, hbb⟩ : ∃ bb, bb = dec ((vd : Int) ∈ [(ua : Int), (ud : Int)]) := ⟨_, rfl⟩
                  have HDB := Lib.hid hbb.symm
                  have HKB : Hid (knE v i k = !bb) := Lib.hid (by
                    rw [HKE.out, hbb]
                    unfold offK
                    have h1 : va ≠ ua := fun h => hA (.inl h)
                    have h2 : va ≠ ud := fun h => hA (.inr h)
                    by_cases h3 : vd = ua ∨ vd = ud
                    · rw [dec_true (by simp; omega)]
                      rcases h3 with h | h <;> simp [h]
                    · rw [dec_false (by simp; omega)]
                      have h4 : vd ≠ ua := fun h => h3 (.inl h)
                      have h5 : vd ≠ ud := fun h => h3 (.inr h)
                      simp [h1, h2, h4, h5])
                  clear hA hbb
                  go_region_held3 (fun w' => w'.cell? ⟨qb, qo + k, none⟩ = some (.slice (some ⟨ub, uo, none⟩) 2 uc) ∧ w'.cell? ⟨qb, qo + i, none⟩ = some (.slice (some ⟨vb, vo, none⟩) 2 vc) ∧ w'.cell? ⟨vb, vo, none⟩ = some (.int .i64 (va : Int)) ∧ w'.cell? ⟨vb, vo + 1, none⟩ = some (.int .i64 (vd : Int)))
                    (first | exact ⟨cu, cv, ca, cd⟩ | exact ⟨HBD.out.at' cu, HBD.out.at' cv, HBD.out.at' ca, HBD.out.at' cd⟩ | go_keep)
                    (first
                      | (have X1 := MK1; go_at_call 158; refine (l1Has_any _ [(ua : Int), (ud : Int)] (vd : Int) _ (by first | exact HNU.out.below (below_dN (Below.refl _ _) 1) | exact HNU.out)).mono ?_; rintro e wa ⟨he, hw⟩; rw [HDB.out] at he; subst he; subst hw)
                      | (go_at_call 158; refine (l1Has_any _ [(ua : Int), (ud : Int)] (va : Int) _ (by first | exact HNU.out.below (below_dN (Below.refl _ _) 1) | exact HNU.out)).mono ?_; rintro e wa ⟨he, hw⟩; rw [HDA.out] at he; subst he; subst hw; have MK1 := trivial))
                  all_goals go_wp2
                  all_goals go_meet
                  all_goals exact ⟨by rw [HKB.out], below_dN (Below.refl _ _) 1⟩
              case rest =>
              obtain ⟨rfl, hb7⟩ := hcut
              have HI7 := Lib.hid (HI.out.next hb7)
              have cb := HI7.out.box.cell
              have fb := HI7.out.box.free
              obtain ⟨bk, hbk⟩ : ∃ bk, bk = knE v i k := ⟨_, rfl⟩
              rw [← hbk]
              clear HI HPR cu cv ca cd HBD HNU HKE
              cases bk
              · have HNX := Lib.hid (upto_no HSY.out him hkl hbk.symm)
                clear hbk
                go_wp2_with fail
                go_roundw
                case rel => exact ⟨k + 1, by omega, by go_num, by rw [← HNX.out]; exact HI7⟩
                case measure => simp [intOf]; omega
              · have hlk := l1LinkD_any p c (matG m (uptoE (knE v) i k)) (k : Int) (i : Int) k i wo.heap.size rfl rfl (by rw [matG_length]; omega) (by rw [matG_length]; omega) (by omega) (not_mem_matG (by omega) (upto_new1 hkl)) (not_mem_matG him (upto_new2 hkl)) (fun j _ => Nat.le_trans (matG_row_le j) (by omega)) _ (by rw [matG_length]; exact HI7.out.dg)
                rw [matG_length, upto_yes HSY.out him hkl hbk.symm] at hlk
                have HLK := Lib.hid hlk
                clear hlk hbk
                go_wp2_with (go_at_call 154; refine HLK.out.mono ?_; rintro e w6 ⟨rfl, hs6, hg6⟩; have hbx := HI7.out.box.grown hg6 (fun e => by have := (HI7.out.own _ e.symm).2; omega); have hc6 := hbx.cell; have hf6 := hbx.free)
                go_roundw
                case rel => exact ⟨k + 1, by omega, by go_num, Lib.hid (HI7.out.link hs6 hg6)⟩
                case measure => simp [intOf]; omega
            · obtain rfl : k = i := by omega
              have HNX := Lib.hid (upto_row HSY.out (i := k))
              go_wp2_with fail
              go_roundw
              case rel => exact ⟨k + 1, by omega, by go_num, by rw [← HNX.out]; exact HI⟩
              case measure => simp [intOf]; omega
        · obtain rfl : i = m := by omega
          have HR5 := HRR.out.keep HI.out.bel
          go_wp2_with (go_at_call 132; refine (SZ.out _ HGI.out).mono ?_; rintro e w4 ⟨rfl, hb4⟩; have HI4 := Lib.hid (HI.out.next hb4); have cb4 := HI4.out.box.cell; obtain ⟨nc, nf, nl, nB⟩ := HR5.keep hb4)
          have HR6 : Box _ w.heap.size 29 (.slice none 0 0) := ⟨nc, nf, nl, nB⟩
          refine bodyPost_ret (v := .tuple #[.agg #[.slice p i c], .bool true]) (by simp [results, Tryd.results67, go_sem, nc]) rfl ⟨p, c, rfl, ?_, ?_⟩
          · have := (HI4.out.dg.setBox HR6 (.slice p i c)).base (base' := w.heap.size) (by omega)
            rw [upto_end] at this
            exact this
          · exact (HWW.out.trans (HI4.out.bel.mono (by omega))).setCell (by show w.heap.size ≤ w.heap.size; omega) _

end Go.Proofs.YtkppbmfliejnmaaDoor
