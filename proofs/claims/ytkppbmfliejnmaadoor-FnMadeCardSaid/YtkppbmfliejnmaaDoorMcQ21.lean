/- Walk: the program's search of a map that fits, recursive on the block of the search (printed in part by wip/mkFt.py). -/
import Derived.Test.YtkppbmfliejnmaaDoorMcQ19
import Derived.Test.YtkppbmfliejnmaaDoorMcQ20
namespace Go.Proofs.YtkppbmfliejnmaaDoor
open Go.RowKit

set_option maxRecDepth 100000 in
set_option maxHeartbeats 1000000 in
theorem firstFit1_any (fb : Nat) (v fv : Value) (l : List Nat) (hl : l.length ≤ 1000) (w : World) (hB : Box w fb 93 fv) (hn : Nums w 3 .i64 v (natInts l)) :
    Calls Tryd.prog 195 #[v, .pointer (some ⟨fb, 0, none⟩)] w fun e w' => e = .returned (.bool true) ∧ ∃ (u : Value) (w2 : World), Below w.heap.size w w2 ∧ w2.ownsRow w.heap.size 3 1 u l.length ((natInts l).map (Value.int .i64)) ∧ w' = w2.setCell ⟨fb, 0, none⟩ u := by
  have HB := Lib.hid hB
  have HN : Hid (Sl w 3 v l.length ((natInts l).map (Value.int .i64))) := Lib.hid (by
    have h : Sl w 3 v (natInts l).length ((natInts l).map (Value.int .i64)) := hn
    rw [natInts_length] at h
    exact h)
  clear hB hn
  go_enter Tryd.func195, Tryd.ntmps195
  go_wp2_with (go_at_call 196; refine (cloneInt_any _ l.length _ (oneCell_ints _ (natInts l)) (by rw [List.length_map, natInts_length]) _ HN.out).mono ?_; rintro e w2 ⟨u, rfl, ho, hb⟩; obtain ⟨up, uc, rfl, _⟩ := owns_capL ho; have HBX := Lib.hid (HB.out.keep hb); have HO := Lib.hid ho; have HBB := Lib.hid hb; have hcx := HBX.out.cell; have hfx := HBX.out.free; clear ho hb)
  go_ret
  exact ⟨rfl, _, _, HBB.out, HO.out, rfl⟩

set_option maxRecDepth 100000 in
set_option maxHeartbeats 8000000 in
theorem fitGrow_any (w1 : World) (hp pp : Option Addr) (hc pc n m : Nat) (E F : Nat → Nat → Bool) (hm0 : 0 < m) (hH : NE w1 (.slice hp n hc) n E) (hP : NE w1 (.slice pp m pc) m F) :
    ∀ (r : Nat) (pre : List Nat) (us : Nat) (ov fv : Value) (w : World), us = mask (natInts pre) → (∀ x ∈ pre, x < n) → pre.length + r = m → FiI w1 w (.slice hp n hc) (.slice pp m pc) pre us ov none fv →
      Calls Tryd.prog 197 #[.pointer (some ⟨w1.heap.size + 1, 0, none⟩)] w fun e w' => e = .returned (.bool (fitF n E F r pre).isSome) ∧ ∃ ov' fv', FiI w1 w' (.slice hp n hc) (.slice pp m pc) pre us ov' (fitF n E F r pre) fv' := by
  have n16 := hH.le
  have m16 := hP.le
  have HH := Lib.hid hH
  have HP := Lib.hid hP
  clear hH hP
  intro r
  induction r with
  | zero =>
    intro pre us ov fv w hus hin hlen hI
    obtain ⟨op, oc, rfl, hoc⟩ := owns_capL hI.ord
    have HI := Lib.hid hI
    have hc1 := hI.cs.c1
    have hc2 := hI.cs.c2
    have hc4 := hI.cs.c4
    have heq : ((pre.length : Int) == (m : Int)) = true := by simp; omega
    have HNP : Hid (Nums w 3 .i64 (.slice op pre.length oc) (natInts pre)) := Lib.hid (Nums.of_owns hI.ord (natInts_length pre).symm (by omega))
    have HXL := Lib.hid hI.cs.lt
    have hpl : pre.length ≤ 1000 := by omega
    clear hI hus hin
    go_enter Tryd.func197, Tryd.ntmps197
    go_upto_region 3 with fail
    go_cut [2] (fun s wx => s = .bool true ∧ ∃ (u : Value) (w2 : World), Below w.heap.size w w2 ∧ w2.ownsRow w.heap.size 3 1 u pre.length ((natInts pre).map (Value.int .i64)) ∧ wx = w2.setCell ⟨w1.heap.size, 0, none⟩ u)
    case first =>
      go_region_held3 (fun w' => w'.cell? ⟨w1.heap.size + 1, 4, none⟩ = some (.func (.func 195) #[] #[.pointer (some ⟨w1.heap.size, 0, none⟩)]) ∧ w'.cell? ⟨w1.heap.size + 1, 2, none⟩ = some (.slice op pre.length oc))
        (first | exact ⟨hc4, hc2⟩ | go_keep | exact HK.out)
        (first | (go_at_call 195; refine (firstFit1_any w1.heap.size _ _ pre hpl _ (HI.out.box.keep (below_dN (Below.refl _ _) 1)) (HNP.out.below (below_dN (Below.refl _ _) 1))).mono ?_; rintro e wa ⟨rfl, u, w2, hb2, ho2, hw2⟩; have HB2 : Hid (Below w.heap.size w w2) := Lib.hid ((below_dN (Below.refl _ _) 1).trans hb2); have HO2 := Lib.hid (show w2.ownsRow w.heap.size 3 1 u pre.length ((natInts pre).map (Value.int .i64)) from ho2); have HW2 := Lib.hid hw2; (have HK : Hid (wa.cell? ⟨w1.heap.size + 1, 4, none⟩ = some (.func (.func 195) #[] #[.pointer (some ⟨w1.heap.size, 0, none⟩)]) ∧ wa.cell? ⟨w1.heap.size + 1, 2, none⟩ = some (.slice op pre.length oc)) := Lib.hid (by rw [hw2]; exact ⟨(World.cell?_setCell_far _ _ _ _ (by show w1.heap.size ≠ w1.heap.size + 1; omega)).trans (HB2.out.at' hc4), (World.cell?_setCell_far _ _ _ _ (by show w1.heap.size ≠ w1.heap.size + 1; omega)).trans (HB2.out.at' hc2)⟩)); clear hb2 ho2 hw2))
      all_goals go_wp2
      all_goals go_meet
      all_goals exact ⟨rfl, u, w2, HB2.out, HO2.out, HW2.out⟩
    case rest =>
    obtain ⟨rfl, u, w2, hb2, ho2, hw2⟩ := hcut
    go_wp2_with fail
    go_ret
    refine ⟨rfl, .slice op pre.length oc, u, ?_⟩
    rw [hw2]
    have h2 := HI.out.next hb2
    have hs := HI.out.bel.size
    have hx := HXL.out
    exact ⟨h2.bel.setCell (p := ⟨w1.heap.size, 0, none⟩) (Nat.le_refl _) _, h2.cs.to (Below.heap_setCell _ _ _ _ (by show w1.heap.size + 1 ≠ w1.heap.size; omega)), ownsRow_far h2.ord (by omega) _, h2.box.set _, ownsRow_far (ownsRow_base ho2 (by omega)) (by omega) _⟩
  | succ r ih =>
    intro pre us ov fv w hus hin hlen hI
    have IH := Lib.hid ih
    have HUS := Lib.hid hus
    have HIN := Lib.hid hin
    have hus16 : us < 65536 := by rw [hus]; exact mask_nat16 fun u hu => by have := hin u hu; omega
    have hne : ((pre.length : Int) == (m : Int)) = false := beq_eq_false_iff_ne.2 (by omega)
    have hpm : pre.length < m := by omega
    obtain ⟨op0, oc0, rfl, hoc0⟩ := owns_capL hI.ord
    have hc0 := hI.cs.c0
    have hc1 := hI.cs.c1
    have hc2 := hI.cs.c2
    have HI := Lib.hid hI
    have HFVN : Hid (fv = .slice none 0 0) := Lib.hid hI.fnd
    clear ih hus hin hI
    go_enter Tryd.func197, Tryd.ntmps197
    go_wp2_with fail
    clear hc0 hc1 hc2
    go_loopw [35] (fun iv wr => ∃ (v : Nat) (ov : Value), v ≤ n ∧ iv = .int .i64 (v : Int) ∧ Hid (fitTo n E F r pre v = none) ∧ FiI w1 wr (.slice hp n hc) (.slice pp m pc) pre us ov none fv) (fun iv _ => n - (intOf iv).toNat)
    case atStart => exact ⟨0, _, Nat.zero_le _, rfl, Lib.hid (fitTo_zero _ _ _ _ _), HI.out⟩
    case round =>
      clear HI hoc0
      obtain ⟨v, ov, hv, rfl, HNO, hI⟩ := hrel
      by_cases hlt : v < n
      · obtain ⟨op, oc, rfl, hoc⟩ := owns_capL hI.ord
        have hc0 := hI.cs.c0
        have hc1 := hI.cs.c1
        have hc2 := hI.cs.c2
        have hc3 := hI.cs.c3
        have hlx := hI.cs.lt
        have HCI := Lib.hid hI
        have HOR := Lib.hid hI.ord
        have HNP : Hid (Nums wr 3 .i64 (.slice op pre.length oc) (natInts pre)) := Lib.hid (Nums.of_owns hI.ord (natInts_length pre).symm (by omega))
        have hvi : (v : Int) < (n : Int) := by omega
        have hbm := bit_natMask pre v
        rw [← HUS.out] at hbm
        clear hI
        by_cases hvp : v ∈ pre
        · have HDU : Hid (us.testBit v = true) := Lib.hid (by rw [hbm]; exact decide_eq_true hvp)
          have HVP := Lib.hid hvp
          clear hbm hvp
          go_wp2_with (go_at_call 175; refine (has_any _ _ us v rfl rfl (by omega) (by omega) _).mono ?_; rintro e wa ⟨he, rfl⟩; rw [HDU.out] at he; subst he)
          go_roundw
          case rel => exact ⟨v + 1, _, by omega, by go_num, Lib.hid (fitTo_no HNO.out fun h => h.1 HVP.out), HCI.out⟩
          case measure => simp [intOf]; omega
        · have HDU : Hid (us.testBit v = false) := Lib.hid (by rw [hbm]; exact decide_eq_false hvp)
          have HVP := Lib.hid hvp
          obtain ⟨wo, hwo⟩ : ∃ wo, wo = wr := ⟨_, rfl⟩
          clear hbm hvp
          go_wp2_with (go_at_call 175; refine (has_any _ _ us v rfl rfl (by omega) (by omega) _).mono ?_; rintro e wa ⟨he, rfl⟩; rw [HDU.out] at he; subst he)
          go_loopw [5, 49] (fun fv' kv wx => ∃ (k : Nat) (b : Bool), k ≤ pre.length ∧ fv' = .bool b ∧ kv = .int .i64 (k : Int) ∧ Hid (b = true ↔ ∀ j (h : j < pre.length), j < k → E v pre[j] = F pre.length j) ∧ Below wo.heap.size wo wx) (fun _ kv _ => pre.length - (intOf kv).toNat)
          case atStart => exact ⟨0, true, Nat.zero_le _, rfl, rfl, Lib.hid ⟨fun _ j _ h => absurd h (Nat.not_lt_zero _), fun _ => rfl⟩, by rw [hwo]; exact Below.refl _ _⟩
          case round =>
            rw [← hwo] at HCI HOR HNP hc0 hc1 hc2 hc3 hlx
            clear hwo
            obtain ⟨k, b, hk, rfl, rfl, HBF, hbx⟩ := hrel
            by_cases hkl : k < pre.length
            · obtain ⟨u, hu⟩ : ∃ u, u = pre[k] := ⟨_, rfl⟩
              have hun : u < n := by rw [hu]; exact HIN.out _ (List.getElem_mem hkl)
              have HU := Lib.hid hu
              obtain ⟨qb, qo, hqp, hq⟩ := (HNP.out.below hbx).get (k := k) (by rw [natInts_length]; exact hkl)
              have e1 : (natInts pre)[k]'(by rw [natInts_length]; exact hkl) = (u : Int) := by rw [hu]; simp [natInts]
              rw [e1] at hq
              have hki : (k : Int) < (pre.length : Int) := by omega
              have HBX := Lib.hid hbx
              cases b
              · clear e1 hu hbx
                subst hqp
                go_upto_region 12 with fail
                refine wp_region_held_drew (S := (fun _ => True)) (by kernel_rfl) ?_ (fun hHeld => ?_)
                · trivial
                refine wpAnyH_take (i := 0) (v := .bool false) rfl (by kernel_rfl) (by kernel_rfl) (by kernel_rfl) (fun _ _ _ h => h) (Or.inl ⟨by rfl, ?_⟩) (by assumption) ?_
                · intro wz hSw; (try dsimp only at hSw); go_simp; try rfl
                try simp only [Act.put, List.getElem_toArray, List.getElem_cons_succ, List.getElem_cons_zero, List.setIfInBounds_toArray, List.set_cons_zero, List.set_cons_succ]
                refine wpAnyH_take (i := 1) (v := .bool false) rfl (by kernel_rfl) (by kernel_rfl) (by kernel_rfl) (fun _ _ _ h => h) (Or.inl ⟨by rfl, ?_⟩) (by assumption) ?_
                · intro wz hSw; (try dsimp only at hSw); go_simp; try rfl
                try simp only [Act.put, List.getElem_toArray, List.getElem_cons_succ, List.getElem_cons_zero, List.setIfInBounds_toArray, List.set_cons_zero, List.set_cons_succ]
                refine wpAnyH_take (i := 2) (v := undef) rfl (by kernel_rfl) (by kernel_rfl) (by kernel_rfl) (fun _ _ _ h => h) (Or.inr ⟨by kernel_rfl, rfl⟩) (by assumption) ?_
                try simp only [Act.put, List.getElem_toArray, List.getElem_cons_succ, List.getElem_cons_zero, List.setIfInBounds_toArray, List.set_cons_zero, List.set_cons_succ]
                refine wpAnyH_take (i := 3) (v := undef) rfl (by kernel_rfl) (by kernel_rfl) (by kernel_rfl) (fun _ _ _ h => h) (Or.inr ⟨by kernel_rfl, rfl⟩) (by assumption) ?_
                try simp only [Act.put, List.getElem_toArray, List.getElem_cons_succ, List.getElem_cons_zero, List.setIfInBounds_toArray, List.set_cons_zero, List.set_cons_succ]
                refine wpAnyH_take (i := 4) (v := undef) rfl (by kernel_rfl) (by kernel_rfl) (by kernel_rfl) (fun _ _ _ h => h) (Or.inr ⟨by kernel_rfl, rfl⟩) (by assumption) ?_
                try simp only [Act.put, List.getElem_toArray, List.getElem_cons_succ, List.getElem_cons_zero, List.setIfInBounds_toArray, List.set_cons_zero, List.set_cons_succ]
                refine wpAnyH_take (i := 5) (v := undef) rfl (by kernel_rfl) (by kernel_rfl) (by kernel_rfl) (fun _ _ _ h => h) (Or.inr ⟨by kernel_rfl, rfl⟩) (by assumption) ?_
                try simp only [Act.put, List.getElem_toArray, List.getElem_cons_succ, List.getElem_cons_zero, List.setIfInBounds_toArray, List.set_cons_zero, List.set_cons_succ]
                refine wpAnyH_take (i := 6) (v := undef) rfl (by kernel_rfl) (by kernel_rfl) (by kernel_rfl) (fun _ _ _ h => h) (Or.inr ⟨by kernel_rfl, rfl⟩) (by assumption) ?_
                try simp only [Act.put, List.getElem_toArray, List.getElem_cons_succ, List.getElem_cons_zero, List.setIfInBounds_toArray, List.set_cons_zero, List.set_cons_succ]
                refine wpAnyH_take (i := 7) (v := undef) rfl (by kernel_rfl) (by kernel_rfl) (by kernel_rfl) (fun _ _ _ h => h) (Or.inr ⟨by kernel_rfl, rfl⟩) (by assumption) ?_
                try simp only [Act.put, List.getElem_toArray, List.getElem_cons_succ, List.getElem_cons_zero, List.setIfInBounds_toArray, List.set_cons_zero, List.set_cons_succ]
                refine wpAnyH_take (i := 8) (v := undef) rfl (by kernel_rfl) (by kernel_rfl) (by kernel_rfl) (fun _ _ _ h => h) (Or.inr ⟨by kernel_rfl, rfl⟩) (by assumption) ?_
                try simp only [Act.put, List.getElem_toArray, List.getElem_cons_succ, List.getElem_cons_zero, List.setIfInBounds_toArray, List.set_cons_zero, List.set_cons_succ]
                refine wpAnyH_take (i := 9) (v := undef) rfl (by kernel_rfl) (by kernel_rfl) (by kernel_rfl) (fun _ _ _ h => h) (Or.inr ⟨by kernel_rfl, rfl⟩) (by assumption) ?_
                try simp only [Act.put, List.getElem_toArray, List.getElem_cons_succ, List.getElem_cons_zero, List.setIfInBounds_toArray, List.set_cons_zero, List.set_cons_succ]
                refine wpAnyH_take (i := 10) (v := undef) rfl (by kernel_rfl) (by kernel_rfl) (by kernel_rfl) (fun _ _ _ h => h) (Or.inr ⟨by kernel_rfl, rfl⟩) (by assumption) ?_
                try simp only [Act.put, List.getElem_toArray, List.getElem_cons_succ, List.getElem_cons_zero, List.setIfInBounds_toArray, List.set_cons_zero, List.set_cons_succ]
                refine wpAnyH_take (i := 11) (v := undef) rfl (by kernel_rfl) (by kernel_rfl) (by kernel_rfl) (fun _ _ _ h => h) (Or.inr ⟨by kernel_rfl, rfl⟩) (by assumption) ?_
                try simp only [Act.put, List.getElem_toArray, List.getElem_cons_succ, List.getElem_cons_zero, List.setIfInBounds_toArray, List.set_cons_zero, List.set_cons_succ]
                refine wpAnyH_take (i := 12) (v := undef) rfl (by kernel_rfl) (by kernel_rfl) (by kernel_rfl) (fun _ _ _ h => h) (Or.inr ⟨by kernel_rfl, rfl⟩) (by assumption) ?_
                try simp only [Act.put, List.getElem_toArray, List.getElem_cons_succ, List.getElem_cons_zero, List.setIfInBounds_toArray, List.set_cons_zero, List.set_cons_succ]
                refine wpAnyH_take (i := 13) (v := undef) rfl (by kernel_rfl) (by kernel_rfl) (by kernel_rfl) (fun _ _ _ h => h) (Or.inr ⟨by kernel_rfl, rfl⟩) (by assumption) ?_
                try simp only [Act.put, List.getElem_toArray, List.getElem_cons_succ, List.getElem_cons_zero, List.setIfInBounds_toArray, List.set_cons_zero, List.set_cons_succ]
                refine wpAnyH_take (i := 14) (v := undef) rfl (by kernel_rfl) (by kernel_rfl) (by kernel_rfl) (fun _ _ _ h => h) (Or.inr ⟨by kernel_rfl, rfl⟩) (by assumption) ?_
                try simp only [Act.put, List.getElem_toArray, List.getElem_cons_succ, List.getElem_cons_zero, List.setIfInBounds_toArray, List.set_cons_zero, List.set_cons_succ]
                refine wpAnyH_take (i := 15) (v := undef) rfl (by kernel_rfl) (by kernel_rfl) (by kernel_rfl) (fun _ _ _ h => h) (Or.inr ⟨by kernel_rfl, rfl⟩) (by assumption) ?_
                try simp only [Act.put, List.getElem_toArray, List.getElem_cons_succ, List.getElem_cons_zero, List.setIfInBounds_toArray, List.set_cons_zero, List.set_cons_succ]
                refine wpAnyH_take (i := 16) (v := undef) rfl (by kernel_rfl) (by kernel_rfl) (by kernel_rfl) (fun _ _ _ h => h) (Or.inr ⟨by kernel_rfl, rfl⟩) (by assumption) ?_
                try simp only [Act.put, List.getElem_toArray, List.getElem_cons_succ, List.getElem_cons_zero, List.setIfInBounds_toArray, List.set_cons_zero, List.set_cons_succ]
                refine wpAnyH_take (i := 17) (v := undef) rfl (by kernel_rfl) (by kernel_rfl) (by kernel_rfl) (fun _ _ _ h => h) (Or.inr ⟨by kernel_rfl, rfl⟩) (by assumption) ?_
                try simp only [Act.put, List.getElem_toArray, List.getElem_cons_succ, List.getElem_cons_zero, List.setIfInBounds_toArray, List.set_cons_zero, List.set_cons_succ]
                refine wpAnyH_take (i := 18) (v := undef) rfl (by kernel_rfl) (by kernel_rfl) (by kernel_rfl) (fun _ _ _ h => h) (Or.inr ⟨by kernel_rfl, rfl⟩) (by assumption) ?_
                try simp only [Act.put, List.getElem_toArray, List.getElem_cons_succ, List.getElem_cons_zero, List.setIfInBounds_toArray, List.set_cons_zero, List.set_cons_succ]
                refine wpAnyH_take (i := 19) (v := undef) rfl (by kernel_rfl) (by kernel_rfl) (by kernel_rfl) (fun _ _ _ h => h) (Or.inr ⟨by kernel_rfl, rfl⟩) (by assumption) ?_
                try simp only [Act.put, List.getElem_toArray, List.getElem_cons_succ, List.getElem_cons_zero, List.setIfInBounds_toArray, List.set_cons_zero, List.set_cons_succ]
                refine wpAnyH_take (i := 20) (v := undef) rfl (by kernel_rfl) (by kernel_rfl) (by kernel_rfl) (fun _ _ _ h => h) (Or.inr ⟨by kernel_rfl, rfl⟩) (by assumption) ?_
                try simp only [Act.put, List.getElem_toArray, List.getElem_cons_succ, List.getElem_cons_zero, List.setIfInBounds_toArray, List.set_cons_zero, List.set_cons_succ]
                refine wpAnyH_take (i := 21) (v := .bool false) rfl (by kernel_rfl) (by kernel_rfl) (by kernel_rfl) (fun _ _ _ h => h) (Or.inl ⟨by rfl, ?_⟩) (by assumption) ?_
                · intro wz hSw; (try dsimp only at hSw); go_simp; try rfl
                try simp only [Act.put, List.getElem_toArray, List.getElem_cons_succ, List.getElem_cons_zero, List.setIfInBounds_toArray, List.set_cons_zero, List.set_cons_succ]
                refine wpAnyH_take (i := 22) (v := .bool false) rfl (by kernel_rfl) (by kernel_rfl) (by kernel_rfl) (fun _ _ _ h => h) (Or.inl ⟨by rfl, ?_⟩) (by assumption) ?_
                · intro wz hSw; (try dsimp only at hSw); go_simp; try rfl
                try simp only [Act.put, List.getElem_toArray, List.getElem_cons_succ, List.getElem_cons_zero, List.setIfInBounds_toArray, List.set_cons_zero, List.set_cons_succ]
                refine wpAnyH_done (by kernel_rfl) ?_ _
                go_wp2
                go_roundw
                case rel => exact ⟨k + 1, false, by omega, rfl, by go_num, Lib.hid ⟨fun h => (by cases h), fun h => HBF.out.2 fun j hj hjk => h j hj (by omega)⟩, HBX.out.trans (below_dN (Below.refl _ _) 1)⟩
                case measure => simp [intOf]; omega
              · obtain ⟨hb, ho, a, hhp, hca, ha16, hab⟩ := (HH.out.next (HCI.out.bel.trans (hbx.mono HCI.out.bel.size))).get hlt
                obtain ⟨pb, po, d, hpp, hcd, hd16, hdb⟩ := (HP.out.next (HCI.out.bel.trans (hbx.mono HCI.out.bel.size))).get hpm
                have HAB : Hid (a.testBit u = E v u) := Lib.hid (by rw [hab u]; simp [hun])
                have HDB : Hid (d.testBit k = F pre.length k) := Lib.hid (by rw [hdb k]; simp; intro; omega)
                have hx0 := hbx.at' hc0
                have hx1 := hbx.at' hc1
                have HBD := Lib.hid (below_dN (Below.refl wr.heap.size wr) 1)
                obtain ⟨ba, hba⟩ : ∃ ba, ba = E v u := ⟨_, rfl⟩
                obtain ⟨bd, hbd⟩ : ∃ bd, bd = F pre.length k := ⟨_, rfl⟩
                rw [← hba] at HAB
                rw [← hbd] at HDB
                have HBA := Lib.hid hba
                have HBDD := Lib.hid hbd
                have hpl16 : pre.length < 16 := by omega
                have hpmi : (pre.length : Int) < (m : Int) := by omega
                have hui : u < 32 := by omega
                clear e1 hu hbx hab hdb hba hbd
                subst hqp
                go_upto_region 12 with fail
                subst hhp
                subst hpp
                have HREL : Hid ((ba == bd) = true ↔ ∀ j (h : j < pre.length), j < k + 1 → E v pre[j] = F pre.length j) := Lib.hid (by
                  rw [HBA.out, HBDD.out, beq_iff_eq]
                  constructor
                  · intro h j hj hjk
                    by_cases e : j < k
                    · exact HBF.out.1 rfl j hj e
                    · obtain rfl : j = k := by omega
                      rw [← HU.out]; exact h
                  · intro h
                    have := h k hkl (Nat.lt_succ_self _)
                    rwa [← HU.out] at this)
                go_region_held3 (fun w' => w'.cell? ⟨w1.heap.size + 1, 0, none⟩ = some (.slice (some ⟨hb, ho, none⟩) n hc) ∧ w'.cell? ⟨w1.heap.size + 1, 1, none⟩ = some (.slice (some ⟨pb, po, none⟩) m pc) ∧ w'.cell? ⟨hb, ho + v, none⟩ = some (.int .u32 (a : Int)) ∧ w'.cell? ⟨pb, po + pre.length, none⟩ = some (.int .u32 (d : Int)))
                  (first | exact ⟨hx0, hx1, hca, hcd⟩ | exact ⟨HBD.out.at' hx0, HBD.out.at' hx1, HBD.out.at' hca, HBD.out.at' hcd⟩ | go_keep)
                  (first
                    | (have X1 := MK1; go_at_call 175; refine (has_any _ _ d k rfl rfl (by omega) (by omega) _).mono ?_; rintro e wa ⟨he, hw⟩; rw [HDB.out] at he; subst he; subst hw)
                    | (go_at_call 175; refine (has_any _ _ a u rfl rfl (by omega) (by omega) _).mono ?_; rintro e wa ⟨he, hw⟩; rw [HAB.out] at he; subst he; subst hw; have MK1 := trivial))
                all_goals go_wp2
                all_goals go_roundw
                all_goals first
                  | exact ⟨k + 1, ba == bd, by omega, rfl, by go_num, HREL, HBX.out.trans (below_dN (Below.refl _ _) 1)⟩
                  | (simp [intOf]; omega)
            · obtain rfl : k = pre.length := by omega
              have HCI2 := Lib.hid (HCI.out.next hbx)
              clear HCI HOR HNP hc0 hc1 hc2 hc3 hlx hbx
              have HCI := HCI2
              have hc2 := HCI.out.cs.c2
              have hc3 := HCI.out.cs.c3
              have hlx := HCI.out.cs.lt
              have HOR := Lib.hid HCI.out.ord
              cases b
              · have HNOK : Hid (¬ okV E F pre v) := Lib.hid (fun h => by
                  have := HBF.out.2 fun j hj _ => h.2 j hj
                  cases this)
                go_wp2_with fail
                go_roundw
                case rel => exact ⟨v + 1, _, by omega, by go_num, Lib.hid (fitTo_no HNO.out HNOK.out), HCI.out⟩
                case measure => simp [intOf]; omega
              · have HOK : Hid (okV E F pre v) := Lib.hid ⟨HVP.out, fun j hj => HBF.out.1 rfl j hj hj⟩
                obtain ⟨pv, hpv⟩ : ∃ pv, pv = 2 ^ v := ⟨_, rfl⟩
                have hp16 : pv < 65536 := by rw [hpv]; exact pow_lt16 v (by omega)
                have ONE : Hid (∀ w, Calls Tryd.prog 156 #[.int .i64 (v : Int)] w fun e w' => e = .returned (.int .u32 (pv : Int)) ∧ w = w') := Lib.hid (by rw [hpv]; exact fun w => one_any (v : Int) v rfl (by omega) w)
                obtain ⟨us2, hus2⟩ : ∃ us2, us2 = us ||| pv := ⟨_, rfl⟩
                have hor : bits BinOp.or IntKind.u32 (us : Int) (pv : Int) = (us2 : Int) := by rw [hus2]; exact or_u32 us pv hus16 hp16
                have h216 : us2 < 65536 := by rw [hus2]; exact or_lt16 us pv hus16 hp16
                have hand : bits BinOp.andNot IntKind.u32 (us2 : Int) (pv : Int) = (us : Int) := by
                  have := u32_andNot_nat us2 pv (by omega) (by omega)
                  rw [this, hus2, HUS.out, hpv]
                  have h3 := mask_back (o := pre) (v := v) (fun u hu => by have := HIN.out u hu; omega) (by omega) HVP.out
                  show ((sub (mask (natInts pre) ||| 2 ^ v) (2 ^ v) : Nat) : Int) = _
                  rw [h3]
                have I1 : Hid (us2 = mask (natInts (pre ++ [v]))) := Lib.hid (by rw [hus2, HUS.out, hpv, mask_app])
                have I2 : Hid (∀ x ∈ pre ++ [v], x < n) := Lib.hid (fun x hx => by
                  rcases List.mem_append.1 hx with h | h
                  · exact HIN.out x h
                  · rw [List.mem_singleton] at h; omega)
                have I3 : Hid ((pre ++ [v]).length + r = m) := Lib.hid (by rw [List.length_append, List.length_singleton]; omega)
                have LO : Hid ((pre ++ [v]).length = pre.length + 1) := Lib.hid (by simp)
                have TK : Hid ((pre ++ [v]).take pre.length = pre) := Lib.hid (by simp)
                obtain ⟨res, hres⟩ : ∃ res, res = fitF n E F r (pre ++ [v]) := ⟨_, rfl⟩
                have HRES := Lib.hid hres
                have HFT : Hid (fitTo n E F r pre (v + 1) = res) := Lib.hid (by rw [fitTo_yes HNO.out HOK.out, hres])
                clear hpv hus2 hres
                go_upto_region 15 with fail
                refine wp_region_stg [(18, fun w' => w'.cell? ⟨w1.heap.size + 1, 2, none⟩ = some (.slice op pre.length oc)), (21, fun w' => w'.cell? ⟨w1.heap.size + 1, 3, none⟩ = some (.int .u32 (us : Int)))] (by kernel_rfl) ?_ (fun hHeld => ?_)
                · exact .keep hc2 (.keep hc3 .nil)
                refine wpStg_pure (i := 0) (v := .pointer (some ⟨w1.heap.size + 1, 0, none⟩)) rfl (by kernel_rfl) (by kernel_rfl) (by kernel_rfl) (by kernel_rfl) (fun _ _ _ h => h) (Or.inl ⟨by rfl, ?_⟩) (by assumption) ?_
                · intro wz _; go_simp; try rfl
                try simp only [Act.put, List.getElem_toArray, List.getElem_cons_succ, List.getElem_cons_zero, List.setIfInBounds_toArray, List.set_cons_zero, List.set_cons_succ]
                refine wpStg_pure (i := 1) (v := .pointer (some ⟨w1.heap.size + 1, 0, none⟩)) rfl (by kernel_rfl) (by kernel_rfl) (by kernel_rfl) (by kernel_rfl) (fun _ _ _ h => h) (Or.inl ⟨by rfl, ?_⟩) (by assumption) ?_
                · intro wz _; go_simp; try rfl
                try simp only [Act.put, List.getElem_toArray, List.getElem_cons_succ, List.getElem_cons_zero, List.setIfInBounds_toArray, List.set_cons_zero, List.set_cons_succ]
                refine wpStg_pure (i := 2) (v := .pointer (some ⟨w1.heap.size + 1, 0, none⟩)) rfl (by kernel_rfl) (by kernel_rfl) (by kernel_rfl) (by kernel_rfl) (fun _ _ _ h => h) (Or.inl ⟨by rfl, ?_⟩) (by assumption) ?_
                · intro wz _; go_simp; try rfl
                try simp only [Act.put, List.getElem_toArray, List.getElem_cons_succ, List.getElem_cons_zero, List.setIfInBounds_toArray, List.set_cons_zero, List.set_cons_succ]
                refine wpStg_pure (i := 3) (v := .pointer (some ⟨w1.heap.size + 1, 0, none⟩)) rfl (by kernel_rfl) (by kernel_rfl) (by kernel_rfl) (by kernel_rfl) (fun _ _ _ h => h) (Or.inl ⟨by rfl, ?_⟩) (by assumption) ?_
                · intro wz _; go_simp; try rfl
                try simp only [Act.put, List.getElem_toArray, List.getElem_cons_succ, List.getElem_cons_zero, List.setIfInBounds_toArray, List.set_cons_zero, List.set_cons_succ]
                refine wpStg_pure (i := 4) (v := .pointer (some ⟨w1.heap.size + 1, 2, none⟩)) rfl (by kernel_rfl) (by kernel_rfl) (by kernel_rfl) (by kernel_rfl) (fun _ _ _ h => h) (Or.inl ⟨by rfl, ?_⟩) (by assumption) ?_
                · intro wz _; go_simp; try rfl
                try simp only [Act.put, List.getElem_toArray, List.getElem_cons_succ, List.getElem_cons_zero, List.setIfInBounds_toArray, List.set_cons_zero, List.set_cons_succ]
                refine wpStg_take (m := 0) (i := 5) (v := .slice op pre.length oc) rfl rfl (by kernel_rfl) (by kernel_rfl) (by kernel_rfl) (by kernel_rfl) (by kernel_rfl) (by kernel_rfl) (fun _ _ _ h => h) (Or.inl ⟨by rfl, ?_⟩) (by assumption) ?_
                · intro wz hSw; (try dsimp only at hSw); go_simp; try rfl
                try simp only [Act.put, List.getElem_toArray, List.getElem_cons_succ, List.getElem_cons_zero, List.setIfInBounds_toArray, List.set_cons_zero, List.set_cons_succ]
                refine wpStg_pure (i := 6) (v := .int .i64 (v : Int)) rfl (by kernel_rfl) (by kernel_rfl) (by kernel_rfl) (by kernel_rfl) (fun _ _ _ h => h) (Or.inl ⟨by rfl, ?_⟩) (by assumption) ?_
                · intro wz _; go_simp; try rfl
                try simp only [Act.put, List.getElem_toArray, List.getElem_cons_succ, List.getElem_cons_zero, List.setIfInBounds_toArray, List.set_cons_zero, List.set_cons_succ]
                refine wpStg_pure (i := 9) (v := .pointer (some ⟨w1.heap.size + 1, 0, none⟩)) rfl (by kernel_rfl) (by kernel_rfl) (by kernel_rfl) (by kernel_rfl) (fun _ _ _ h => h) (Or.inl ⟨by rfl, ?_⟩) (by assumption) ?_
                · intro wz _; go_simp; try rfl
                try simp only [Act.put, List.getElem_toArray, List.getElem_cons_succ, List.getElem_cons_zero, List.setIfInBounds_toArray, List.set_cons_zero, List.set_cons_succ]
                refine wpStg_pure (i := 10) (v := .pointer (some ⟨w1.heap.size + 1, 0, none⟩)) rfl (by kernel_rfl) (by kernel_rfl) (by kernel_rfl) (by kernel_rfl) (fun _ _ _ h => h) (Or.inl ⟨by rfl, ?_⟩) (by assumption) ?_
                · intro wz _; go_simp; try rfl
                try simp only [Act.put, List.getElem_toArray, List.getElem_cons_succ, List.getElem_cons_zero, List.setIfInBounds_toArray, List.set_cons_zero, List.set_cons_succ]
                refine wpStg_pure (i := 11) (v := .pointer (some ⟨w1.heap.size + 1, 3, none⟩)) rfl (by kernel_rfl) (by kernel_rfl) (by kernel_rfl) (by kernel_rfl) (fun _ _ _ h => h) (Or.inl ⟨by rfl, ?_⟩) (by assumption) ?_
                · intro wz _; go_simp; try rfl
                try simp only [Act.put, List.getElem_toArray, List.getElem_cons_succ, List.getElem_cons_zero, List.setIfInBounds_toArray, List.set_cons_zero, List.set_cons_succ]
                refine wpStg_take (m := 1) (i := 12) (v := .int .u32 (us : Int)) rfl rfl (by kernel_rfl) (by kernel_rfl) (by kernel_rfl) (by kernel_rfl) (by kernel_rfl) (by kernel_rfl) (fun _ _ _ h => h) (Or.inl ⟨by rfl, ?_⟩) (by assumption) ?_
                · intro wz hSw; (try dsimp only at hSw); go_simp; try rfl
                try simp only [Act.put, List.getElem_toArray, List.getElem_cons_succ, List.getElem_cons_zero, List.setIfInBounds_toArray, List.set_cons_zero, List.set_cons_succ]
                refine wpStg_pure (i := 13) (v := .int .i64 (v : Int)) rfl (by kernel_rfl) (by kernel_rfl) (by kernel_rfl) (by kernel_rfl) (fun _ _ _ h => h) (Or.inl ⟨by rfl, ?_⟩) (by assumption) ?_
                · intro wz _; go_simp; try rfl
                try simp only [Act.put, List.getElem_toArray, List.getElem_cons_succ, List.getElem_cons_zero, List.setIfInBounds_toArray, List.set_cons_zero, List.set_cons_succ]
                refine wpStg_one (i := 7) (by kernel_rfl) rfl (fun K hK => ?_)
                go_simp
                refine hK.out _ _ ?_ (fun hHeld => ?_)
                · exact .keep ((below_alloc _ _).at' hc2) (.keep ((below_alloc _ _).at' hc3) .nil)
                clear hK K
                try simp only [Act.put, List.getElem_toArray, List.getElem_cons_succ, List.getElem_cons_zero, List.setIfInBounds_toArray, List.set_cons_zero, List.set_cons_succ]
                refine wpStg_one (i := 8) (by kernel_rfl) rfl (fun K hK => ?_)
                refine step_app1f ty_int (w := wr.drew) (s := .tmp 84) (x := .tmp 86) (v := .slice op pre.length oc) (n := pre.length) (xs := (natInts pre).map (Value.int .i64)) (base := w1.heap.size + 2) (el := .int .i64 (v : Int)) rfl rfl rfl HOR.out rfl rfl (by omega) (show w1.heap.size + 2 ≤ wr.heap.size from Nat.succ_le_of_lt hlx) ?_
                intro b8 c8 w8 hown8 hg8 _
                have hg8x : wr.grownBy w8 (Value.slice op pre.length oc).ownBlock := ⟨hg8.os, hg8.tape, hg8.output, hg8.size, hg8.block⟩
                have hx8 : w8.heap[w1.heap.size + 1]? = _ := hg8x.block _ hlx (fun e => by have := (HOR.out.lt _ e.symm).1; omega)
                have C8 := HCI.out.cs.to hx8
                have O8 := Lib.hid (HCI.out.push (us' := us2) hown8 hg8x)
                have hc2y := C8.c2
                have hc3y := C8.c3
                have hf2y := C8.free 2
                have hc3z := (C8.s2 (.slice (some ⟨b8, 0, none⟩) (pre.length + 1) c8)).c3
                have hf3z := (C8.s2 (.slice (some ⟨b8, 0, none⟩) (pre.length + 1) c8)).free 3
                clear hown8 hg8 hg8x hx8 C8
                refine hK.out _ _ ?_ (fun hHeld => ?_)
                · exact .keep hc2y (.keep hc3y .nil)
                clear hK K
                try simp only [Act.put, List.getElem_toArray, List.getElem_cons_succ, List.getElem_cons_zero, List.setIfInBounds_toArray, List.set_cons_zero, List.set_cons_succ]
                refine wpStg_one (i := 14) (by kernel_rfl) rfl (fun K hK => ?_)
                go_simp
                go_at_call 156
                refine (ONE.out _).mono ?_
                rintro e w9 ⟨rfl, rfl⟩
                refine hK.out _ _ ?_ (fun hHeld => ?_)
                · exact .keep hc2y (.keep hc3y .nil)
                clear hK K
                try simp only [Act.put, List.getElem_toArray, List.getElem_cons_succ, List.getElem_cons_zero, List.setIfInBounds_toArray, List.set_cons_zero, List.set_cons_succ]
                refine wpStg_pure (i := 15) (v := .int .u32 (us2 : Int)) rfl (by kernel_rfl) (by kernel_rfl) (by kernel_rfl) (by kernel_rfl) (fun _ _ _ h => h) (Or.inl ⟨by rfl, ?_⟩) (by assumption) ?_
                · intro wz _; go_simp; try rfl
                try simp only [Act.put, List.getElem_toArray, List.getElem_cons_succ, List.getElem_cons_zero, List.setIfInBounds_toArray, List.set_cons_zero, List.set_cons_succ]
                refine wpStg_pure (i := 16) (v := .pointer (some ⟨w1.heap.size + 1, 0, none⟩)) rfl (by kernel_rfl) (by kernel_rfl) (by kernel_rfl) (by kernel_rfl) (fun _ _ _ h => h) (Or.inl ⟨by rfl, ?_⟩) (by assumption) ?_
                · intro wz _; go_simp; try rfl
                try simp only [Act.put, List.getElem_toArray, List.getElem_cons_succ, List.getElem_cons_zero, List.setIfInBounds_toArray, List.set_cons_zero, List.set_cons_succ]
                refine wpStg_pure (i := 17) (v := .pointer (some ⟨w1.heap.size + 1, 2, none⟩)) rfl (by kernel_rfl) (by kernel_rfl) (by kernel_rfl) (by kernel_rfl) (fun _ _ _ h => h) (Or.inl ⟨by rfl, ?_⟩) (by assumption) ?_
                · intro wz _; go_simp; try rfl
                try simp only [Act.put, List.getElem_toArray, List.getElem_cons_succ, List.getElem_cons_zero, List.setIfInBounds_toArray, List.set_cons_zero, List.set_cons_succ]
                refine wpStg_one (i := 18) (by kernel_rfl) rfl (fun K hK => ?_)
                go_simp
                refine hK.out _ _ ?_ (fun hHeld => ?_)
                · exact .skip (by kernel_rfl) (.keep hc3z .nil)
                clear hK K
                try simp only [Act.put, List.getElem_toArray, List.getElem_cons_succ, List.getElem_cons_zero, List.setIfInBounds_toArray, List.set_cons_zero, List.set_cons_succ]
                refine wpStg_pure (i := 19) (v := .pointer (some ⟨w1.heap.size + 1, 0, none⟩)) rfl (by kernel_rfl) (by kernel_rfl) (by kernel_rfl) (by kernel_rfl) (fun _ _ _ h => h) (Or.inl ⟨by rfl, ?_⟩) (by assumption) ?_
                · intro wz _; go_simp; try rfl
                try simp only [Act.put, List.getElem_toArray, List.getElem_cons_succ, List.getElem_cons_zero, List.setIfInBounds_toArray, List.set_cons_zero, List.set_cons_succ]
                refine wpStg_pure (i := 20) (v := .pointer (some ⟨w1.heap.size + 1, 3, none⟩)) rfl (by kernel_rfl) (by kernel_rfl) (by kernel_rfl) (by kernel_rfl) (fun _ _ _ h => h) (Or.inl ⟨by rfl, ?_⟩) (by assumption) ?_
                · intro wz _; go_simp; try rfl
                try simp only [Act.put, List.getElem_toArray, List.getElem_cons_succ, List.getElem_cons_zero, List.setIfInBounds_toArray, List.set_cons_zero, List.set_cons_succ]
                refine wpStg_one (i := 21) (by kernel_rfl) rfl (fun K hK => ?_)
                go_simp
                refine hK.out _ _ ?_ (fun hHeld => ?_)
                · exact .skip (by kernel_rfl) (.skip (by kernel_rfl) .nil)
                clear hK K
                try simp only [Act.put, List.getElem_toArray, List.getElem_cons_succ, List.getElem_cons_zero, List.setIfInBounds_toArray, List.set_cons_zero, List.set_cons_succ]
                refine wpStg_done (by kernel_rfl) ?_ _
                cases res
                · go_upto_region 17 with (go_at_call 197; refine (IH.out (pre ++ [v]) us2 _ _ _ I1.out I2.out I3.out O8.out).mono ?_; rintro e w10 ⟨he, ov2, fv2, hci2⟩; rw [← HRES.out] at he hci2; change e = Ending.returned (.bool false) at he; subst he; have HC2 := Lib.hid hci2; clear hci2)
                  clear hc2y hc3y hf2y hc3z hf3z O8 HCI HOR hc2 hc3
                  have hci3 := HC2.out
                  obtain ⟨op2, oc2, rfl, hoc2⟩ := owns_capL hci3.ord
                  have CUT := Lib.hid ((hci3.cut (i := pre.length) (by rw [LO.out]; omega) us).next (below_dN (Below.refl _ _) 1))
                  obtain ⟨lo2, hlo2⟩ : ∃ lo2, lo2 = (pre ++ [v]).length := ⟨_, rfl⟩
                  have hcs := hci3.cs
                  rw [← hlo2] at hcs hoc2
                  have hlo3 := LO.out
                  rw [← hlo2] at hlo3
                  have hso : (pre.length : Int) ≤ (oc2 : Int) := by omega
                  have hd2 := hcs.c2
                  have hd3 := hcs.c3
                  have hfd2 := hcs.free 2
                  have hd3z := (hcs.s2 (.slice op2 pre.length oc2)).c3
                  have hfd3 := (hcs.s2 (.slice op2 pre.length oc2)).free 3
                  have HFV : Hid (fv2 = fv) := Lib.hid (by have h1 := hci3.fnd; have h2 := HFVN.out; exact h1.trans h2.symm)
                  clear hci3 hlo2 hcs hoc2 hlo3 HC2
                  refine wp_region_stg [(17, fun w' => w'.cell? ⟨w1.heap.size + 1, 2, none⟩ = some (.slice op2 lo2 oc2)), (20, fun w' => w'.cell? ⟨w1.heap.size + 1, 3, none⟩ = some (.int .u32 (us2 : Int)))] (by kernel_rfl) ?_ (fun hHeld => ?_)
                  · exact .keep hd2 (.keep hd3 .nil)
                  refine wpStg_pure (i := 0) (v := .pointer (some ⟨w1.heap.size + 1, 0, none⟩)) rfl (by kernel_rfl) (by kernel_rfl) (by kernel_rfl) (by kernel_rfl) (fun _ _ _ h => h) (Or.inl ⟨by rfl, ?_⟩) (by assumption) ?_
                  · intro wz _; go_simp; try rfl
                  try simp only [Act.put, List.getElem_toArray, List.getElem_cons_succ, List.getElem_cons_zero, List.setIfInBounds_toArray, List.set_cons_zero, List.set_cons_succ]
                  refine wpStg_pure (i := 1) (v := .pointer (some ⟨w1.heap.size + 1, 0, none⟩)) rfl (by kernel_rfl) (by kernel_rfl) (by kernel_rfl) (by kernel_rfl) (fun _ _ _ h => h) (Or.inl ⟨by rfl, ?_⟩) (by assumption) ?_
                  · intro wz _; go_simp; try rfl
                  try simp only [Act.put, List.getElem_toArray, List.getElem_cons_succ, List.getElem_cons_zero, List.setIfInBounds_toArray, List.set_cons_zero, List.set_cons_succ]
                  refine wpStg_pure (i := 2) (v := .pointer (some ⟨w1.heap.size + 1, 0, none⟩)) rfl (by kernel_rfl) (by kernel_rfl) (by kernel_rfl) (by kernel_rfl) (fun _ _ _ h => h) (Or.inl ⟨by rfl, ?_⟩) (by assumption) ?_
                  · intro wz _; go_simp; try rfl
                  try simp only [Act.put, List.getElem_toArray, List.getElem_cons_succ, List.getElem_cons_zero, List.setIfInBounds_toArray, List.set_cons_zero, List.set_cons_succ]
                  refine wpStg_pure (i := 3) (v := .pointer (some ⟨w1.heap.size + 1, 0, none⟩)) rfl (by kernel_rfl) (by kernel_rfl) (by kernel_rfl) (by kernel_rfl) (fun _ _ _ h => h) (Or.inl ⟨by rfl, ?_⟩) (by assumption) ?_
                  · intro wz _; go_simp; try rfl
                  try simp only [Act.put, List.getElem_toArray, List.getElem_cons_succ, List.getElem_cons_zero, List.setIfInBounds_toArray, List.set_cons_zero, List.set_cons_succ]
                  refine wpStg_pure (i := 4) (v := .pointer (some ⟨w1.heap.size + 1, 2, none⟩)) rfl (by kernel_rfl) (by kernel_rfl) (by kernel_rfl) (by kernel_rfl) (fun _ _ _ h => h) (Or.inl ⟨by rfl, ?_⟩) (by assumption) ?_
                  · intro wz _; go_simp; try rfl
                  try simp only [Act.put, List.getElem_toArray, List.getElem_cons_succ, List.getElem_cons_zero, List.setIfInBounds_toArray, List.set_cons_zero, List.set_cons_succ]
                  refine wpStg_take (m := 0) (i := 5) (v := .slice op2 lo2 oc2) rfl rfl (by kernel_rfl) (by kernel_rfl) (by kernel_rfl) (by kernel_rfl) (by kernel_rfl) (by kernel_rfl) (fun _ _ _ h => h) (Or.inl ⟨by rfl, ?_⟩) (by assumption) ?_
                  · intro wz hSw; (try dsimp only at hSw); go_simp; try rfl
                  try simp only [Act.put, List.getElem_toArray, List.getElem_cons_succ, List.getElem_cons_zero, List.setIfInBounds_toArray, List.set_cons_zero, List.set_cons_succ]
                  refine wpStg_pure (i := 6) (v := .int .i64 (pre.length : Int)) rfl (by kernel_rfl) (by kernel_rfl) (by kernel_rfl) (by kernel_rfl) (fun _ _ _ h => h) (Or.inl ⟨by rfl, ?_⟩) (by assumption) ?_
                  · intro wz _; go_simp; try rfl
                  try simp only [Act.put, List.getElem_toArray, List.getElem_cons_succ, List.getElem_cons_zero, List.setIfInBounds_toArray, List.set_cons_zero, List.set_cons_succ]
                  refine wpStg_pure (i := 7) (v := .slice op2 pre.length oc2) rfl (by kernel_rfl) (by kernel_rfl) (by kernel_rfl) (by kernel_rfl) (fun _ _ _ h => h) (Or.inl ⟨by rfl, ?_⟩) (by assumption) ?_
                  · intro wz _; go_simp; try rfl
                  try simp only [Act.put, List.getElem_toArray, List.getElem_cons_succ, List.getElem_cons_zero, List.setIfInBounds_toArray, List.set_cons_zero, List.set_cons_succ]
                  refine wpStg_pure (i := 8) (v := .pointer (some ⟨w1.heap.size + 1, 0, none⟩)) rfl (by kernel_rfl) (by kernel_rfl) (by kernel_rfl) (by kernel_rfl) (fun _ _ _ h => h) (Or.inl ⟨by rfl, ?_⟩) (by assumption) ?_
                  · intro wz _; go_simp; try rfl
                  try simp only [Act.put, List.getElem_toArray, List.getElem_cons_succ, List.getElem_cons_zero, List.setIfInBounds_toArray, List.set_cons_zero, List.set_cons_succ]
                  refine wpStg_pure (i := 9) (v := .pointer (some ⟨w1.heap.size + 1, 0, none⟩)) rfl (by kernel_rfl) (by kernel_rfl) (by kernel_rfl) (by kernel_rfl) (fun _ _ _ h => h) (Or.inl ⟨by rfl, ?_⟩) (by assumption) ?_
                  · intro wz _; go_simp; try rfl
                  try simp only [Act.put, List.getElem_toArray, List.getElem_cons_succ, List.getElem_cons_zero, List.setIfInBounds_toArray, List.set_cons_zero, List.set_cons_succ]
                  refine wpStg_pure (i := 10) (v := .pointer (some ⟨w1.heap.size + 1, 3, none⟩)) rfl (by kernel_rfl) (by kernel_rfl) (by kernel_rfl) (by kernel_rfl) (fun _ _ _ h => h) (Or.inl ⟨by rfl, ?_⟩) (by assumption) ?_
                  · intro wz _; go_simp; try rfl
                  try simp only [Act.put, List.getElem_toArray, List.getElem_cons_succ, List.getElem_cons_zero, List.setIfInBounds_toArray, List.set_cons_zero, List.set_cons_succ]
                  refine wpStg_take (m := 1) (i := 11) (v := .int .u32 (us2 : Int)) rfl rfl (by kernel_rfl) (by kernel_rfl) (by kernel_rfl) (by kernel_rfl) (by kernel_rfl) (by kernel_rfl) (fun _ _ _ h => h) (Or.inl ⟨by rfl, ?_⟩) (by assumption) ?_
                  · intro wz hSw; (try dsimp only at hSw); go_simp; try rfl
                  try simp only [Act.put, List.getElem_toArray, List.getElem_cons_succ, List.getElem_cons_zero, List.setIfInBounds_toArray, List.set_cons_zero, List.set_cons_succ]
                  refine wpStg_pure (i := 12) (v := .int .i64 (v : Int)) rfl (by kernel_rfl) (by kernel_rfl) (by kernel_rfl) (by kernel_rfl) (fun _ _ _ h => h) (Or.inl ⟨by rfl, ?_⟩) (by assumption) ?_
                  · intro wz _; go_simp; try rfl
                  try simp only [Act.put, List.getElem_toArray, List.getElem_cons_succ, List.getElem_cons_zero, List.setIfInBounds_toArray, List.set_cons_zero, List.set_cons_succ]
                  refine wpStg_one (i := 13) (by kernel_rfl) rfl (fun K hK => ?_)
                  go_simp
                  go_at_call 156
                  refine (ONE.out _).mono ?_
                  rintro e w9 ⟨rfl, rfl⟩
                  refine hK.out _ _ ?_ (fun hHeld => ?_)
                  · exact .keep hd2 (.keep hd3 .nil)
                  clear hK K
                  try simp only [Act.put, List.getElem_toArray, List.getElem_cons_succ, List.getElem_cons_zero, List.setIfInBounds_toArray, List.set_cons_zero, List.set_cons_succ]
                  refine wpStg_pure (i := 14) (v := .int .u32 (us : Int)) rfl (by kernel_rfl) (by kernel_rfl) (by kernel_rfl) (by kernel_rfl) (fun _ _ _ h => h) (Or.inl ⟨by rfl, ?_⟩) (by assumption) ?_
                  · intro wz _; go_simp; try rfl
                  try simp only [Act.put, List.getElem_toArray, List.getElem_cons_succ, List.getElem_cons_zero, List.setIfInBounds_toArray, List.set_cons_zero, List.set_cons_succ]
                  refine wpStg_pure (i := 15) (v := .pointer (some ⟨w1.heap.size + 1, 0, none⟩)) rfl (by kernel_rfl) (by kernel_rfl) (by kernel_rfl) (by kernel_rfl) (fun _ _ _ h => h) (Or.inl ⟨by rfl, ?_⟩) (by assumption) ?_
                  · intro wz _; go_simp; try rfl
                  try simp only [Act.put, List.getElem_toArray, List.getElem_cons_succ, List.getElem_cons_zero, List.setIfInBounds_toArray, List.set_cons_zero, List.set_cons_succ]
                  refine wpStg_pure (i := 16) (v := .pointer (some ⟨w1.heap.size + 1, 2, none⟩)) rfl (by kernel_rfl) (by kernel_rfl) (by kernel_rfl) (by kernel_rfl) (fun _ _ _ h => h) (Or.inl ⟨by rfl, ?_⟩) (by assumption) ?_
                  · intro wz _; go_simp; try rfl
                  try simp only [Act.put, List.getElem_toArray, List.getElem_cons_succ, List.getElem_cons_zero, List.setIfInBounds_toArray, List.set_cons_zero, List.set_cons_succ]
                  refine wpStg_one (i := 17) (by kernel_rfl) rfl (fun K hK => ?_)
                  go_simp
                  refine hK.out _ _ ?_ (fun hHeld => ?_)
                  · exact .skip (by kernel_rfl) (.keep hd3z .nil)
                  clear hK K
                  try simp only [Act.put, List.getElem_toArray, List.getElem_cons_succ, List.getElem_cons_zero, List.setIfInBounds_toArray, List.set_cons_zero, List.set_cons_succ]
                  refine wpStg_pure (i := 18) (v := .pointer (some ⟨w1.heap.size + 1, 0, none⟩)) rfl (by kernel_rfl) (by kernel_rfl) (by kernel_rfl) (by kernel_rfl) (fun _ _ _ h => h) (Or.inl ⟨by rfl, ?_⟩) (by assumption) ?_
                  · intro wz _; go_simp; try rfl
                  try simp only [Act.put, List.getElem_toArray, List.getElem_cons_succ, List.getElem_cons_zero, List.setIfInBounds_toArray, List.set_cons_zero, List.set_cons_succ]
                  refine wpStg_pure (i := 19) (v := .pointer (some ⟨w1.heap.size + 1, 3, none⟩)) rfl (by kernel_rfl) (by kernel_rfl) (by kernel_rfl) (by kernel_rfl) (fun _ _ _ h => h) (Or.inl ⟨by rfl, ?_⟩) (by assumption) ?_
                  · intro wz _; go_simp; try rfl
                  try simp only [Act.put, List.getElem_toArray, List.getElem_cons_succ, List.getElem_cons_zero, List.setIfInBounds_toArray, List.set_cons_zero, List.set_cons_succ]
                  refine wpStg_one (i := 20) (by kernel_rfl) rfl (fun K hK => ?_)
                  go_simp
                  refine hK.out _ _ ?_ (fun hHeld => ?_)
                  · exact .skip (by kernel_rfl) (.skip (by kernel_rfl) .nil)
                  clear hK K
                  try simp only [Act.put, List.getElem_toArray, List.getElem_cons_succ, List.getElem_cons_zero, List.setIfInBounds_toArray, List.set_cons_zero, List.set_cons_succ]
                  refine wpStg_done (by kernel_rfl) ?_ _
                  go_wp2_with fail
                  go_roundw
                  case rel => exact ⟨v + 1, _, by omega, by go_num, HFT, by have := CUT.out; rw [TK.out, HFV.out] at this; exact this⟩
                  case measure => simp [intOf]; omega
                · rename_i lf
                  go_upto_region 17 with (go_at_call 197; refine (IH.out (pre ++ [v]) us2 _ _ _ I1.out I2.out I3.out O8.out).mono ?_; rintro e w10 ⟨he, ov2, fv2, hci2⟩; rw [← HRES.out] at he hci2; change e = Ending.returned (.bool true) at he; subst he; have HC2 := Lib.hid hci2; clear hci2)
                  clear hc2y hc3y hf2y hc3z hf3z O8 HCI HOR hc2 hc3
                  have hci3 := HC2.out
                  obtain ⟨op2, oc2, rfl, hoc2⟩ := owns_capL hci3.ord
                  have CUT := Lib.hid ((hci3.cut (i := pre.length) (by rw [LO.out]; omega) us).next (below_dN (Below.refl _ _) 1))
                  obtain ⟨lo2, hlo2⟩ : ∃ lo2, lo2 = (pre ++ [v]).length := ⟨_, rfl⟩
                  have hcs := hci3.cs
                  rw [← hlo2] at hcs hoc2
                  have hlo3 := LO.out
                  rw [← hlo2] at hlo3
                  have hso : (pre.length : Int) ≤ (oc2 : Int) := by omega
                  have hd2 := hcs.c2
                  have hd3 := hcs.c3
                  have hfd2 := hcs.free 2
                  have hd3z := (hcs.s2 (.slice op2 pre.length oc2)).c3
                  have hfd3 := (hcs.s2 (.slice op2 pre.length oc2)).free 3
                  clear hci3 hlo2 hcs hoc2 hlo3 HC2
                  refine wp_region_stg [(17, fun w' => w'.cell? ⟨w1.heap.size + 1, 2, none⟩ = some (.slice op2 lo2 oc2)), (20, fun w' => w'.cell? ⟨w1.heap.size + 1, 3, none⟩ = some (.int .u32 (us2 : Int)))] (by kernel_rfl) ?_ (fun hHeld => ?_)
                  · exact .keep hd2 (.keep hd3 .nil)
                  refine wpStg_pure (i := 0) (v := .pointer (some ⟨w1.heap.size + 1, 0, none⟩)) rfl (by kernel_rfl) (by kernel_rfl) (by kernel_rfl) (by kernel_rfl) (fun _ _ _ h => h) (Or.inl ⟨by rfl, ?_⟩) (by assumption) ?_
                  · intro wz _; go_simp; try rfl
                  try simp only [Act.put, List.getElem_toArray, List.getElem_cons_succ, List.getElem_cons_zero, List.setIfInBounds_toArray, List.set_cons_zero, List.set_cons_succ]
                  refine wpStg_pure (i := 1) (v := .pointer (some ⟨w1.heap.size + 1, 0, none⟩)) rfl (by kernel_rfl) (by kernel_rfl) (by kernel_rfl) (by kernel_rfl) (fun _ _ _ h => h) (Or.inl ⟨by rfl, ?_⟩) (by assumption) ?_
                  · intro wz _; go_simp; try rfl
                  try simp only [Act.put, List.getElem_toArray, List.getElem_cons_succ, List.getElem_cons_zero, List.setIfInBounds_toArray, List.set_cons_zero, List.set_cons_succ]
                  refine wpStg_pure (i := 2) (v := .pointer (some ⟨w1.heap.size + 1, 0, none⟩)) rfl (by kernel_rfl) (by kernel_rfl) (by kernel_rfl) (by kernel_rfl) (fun _ _ _ h => h) (Or.inl ⟨by rfl, ?_⟩) (by assumption) ?_
                  · intro wz _; go_simp; try rfl
                  try simp only [Act.put, List.getElem_toArray, List.getElem_cons_succ, List.getElem_cons_zero, List.setIfInBounds_toArray, List.set_cons_zero, List.set_cons_succ]
                  refine wpStg_pure (i := 3) (v := .pointer (some ⟨w1.heap.size + 1, 0, none⟩)) rfl (by kernel_rfl) (by kernel_rfl) (by kernel_rfl) (by kernel_rfl) (fun _ _ _ h => h) (Or.inl ⟨by rfl, ?_⟩) (by assumption) ?_
                  · intro wz _; go_simp; try rfl
                  try simp only [Act.put, List.getElem_toArray, List.getElem_cons_succ, List.getElem_cons_zero, List.setIfInBounds_toArray, List.set_cons_zero, List.set_cons_succ]
                  refine wpStg_pure (i := 4) (v := .pointer (some ⟨w1.heap.size + 1, 2, none⟩)) rfl (by kernel_rfl) (by kernel_rfl) (by kernel_rfl) (by kernel_rfl) (fun _ _ _ h => h) (Or.inl ⟨by rfl, ?_⟩) (by assumption) ?_
                  · intro wz _; go_simp; try rfl
                  try simp only [Act.put, List.getElem_toArray, List.getElem_cons_succ, List.getElem_cons_zero, List.setIfInBounds_toArray, List.set_cons_zero, List.set_cons_succ]
                  refine wpStg_take (m := 0) (i := 5) (v := .slice op2 lo2 oc2) rfl rfl (by kernel_rfl) (by kernel_rfl) (by kernel_rfl) (by kernel_rfl) (by kernel_rfl) (by kernel_rfl) (fun _ _ _ h => h) (Or.inl ⟨by rfl, ?_⟩) (by assumption) ?_
                  · intro wz hSw; (try dsimp only at hSw); go_simp; try rfl
                  try simp only [Act.put, List.getElem_toArray, List.getElem_cons_succ, List.getElem_cons_zero, List.setIfInBounds_toArray, List.set_cons_zero, List.set_cons_succ]
                  refine wpStg_pure (i := 6) (v := .int .i64 (pre.length : Int)) rfl (by kernel_rfl) (by kernel_rfl) (by kernel_rfl) (by kernel_rfl) (fun _ _ _ h => h) (Or.inl ⟨by rfl, ?_⟩) (by assumption) ?_
                  · intro wz _; go_simp; try rfl
                  try simp only [Act.put, List.getElem_toArray, List.getElem_cons_succ, List.getElem_cons_zero, List.setIfInBounds_toArray, List.set_cons_zero, List.set_cons_succ]
                  refine wpStg_pure (i := 7) (v := .slice op2 pre.length oc2) rfl (by kernel_rfl) (by kernel_rfl) (by kernel_rfl) (by kernel_rfl) (fun _ _ _ h => h) (Or.inl ⟨by rfl, ?_⟩) (by assumption) ?_
                  · intro wz _; go_simp; try rfl
                  try simp only [Act.put, List.getElem_toArray, List.getElem_cons_succ, List.getElem_cons_zero, List.setIfInBounds_toArray, List.set_cons_zero, List.set_cons_succ]
                  refine wpStg_pure (i := 8) (v := .pointer (some ⟨w1.heap.size + 1, 0, none⟩)) rfl (by kernel_rfl) (by kernel_rfl) (by kernel_rfl) (by kernel_rfl) (fun _ _ _ h => h) (Or.inl ⟨by rfl, ?_⟩) (by assumption) ?_
                  · intro wz _; go_simp; try rfl
                  try simp only [Act.put, List.getElem_toArray, List.getElem_cons_succ, List.getElem_cons_zero, List.setIfInBounds_toArray, List.set_cons_zero, List.set_cons_succ]
                  refine wpStg_pure (i := 9) (v := .pointer (some ⟨w1.heap.size + 1, 0, none⟩)) rfl (by kernel_rfl) (by kernel_rfl) (by kernel_rfl) (by kernel_rfl) (fun _ _ _ h => h) (Or.inl ⟨by rfl, ?_⟩) (by assumption) ?_
                  · intro wz _; go_simp; try rfl
                  try simp only [Act.put, List.getElem_toArray, List.getElem_cons_succ, List.getElem_cons_zero, List.setIfInBounds_toArray, List.set_cons_zero, List.set_cons_succ]
                  refine wpStg_pure (i := 10) (v := .pointer (some ⟨w1.heap.size + 1, 3, none⟩)) rfl (by kernel_rfl) (by kernel_rfl) (by kernel_rfl) (by kernel_rfl) (fun _ _ _ h => h) (Or.inl ⟨by rfl, ?_⟩) (by assumption) ?_
                  · intro wz _; go_simp; try rfl
                  try simp only [Act.put, List.getElem_toArray, List.getElem_cons_succ, List.getElem_cons_zero, List.setIfInBounds_toArray, List.set_cons_zero, List.set_cons_succ]
                  refine wpStg_take (m := 1) (i := 11) (v := .int .u32 (us2 : Int)) rfl rfl (by kernel_rfl) (by kernel_rfl) (by kernel_rfl) (by kernel_rfl) (by kernel_rfl) (by kernel_rfl) (fun _ _ _ h => h) (Or.inl ⟨by rfl, ?_⟩) (by assumption) ?_
                  · intro wz hSw; (try dsimp only at hSw); go_simp; try rfl
                  try simp only [Act.put, List.getElem_toArray, List.getElem_cons_succ, List.getElem_cons_zero, List.setIfInBounds_toArray, List.set_cons_zero, List.set_cons_succ]
                  refine wpStg_pure (i := 12) (v := .int .i64 (v : Int)) rfl (by kernel_rfl) (by kernel_rfl) (by kernel_rfl) (by kernel_rfl) (fun _ _ _ h => h) (Or.inl ⟨by rfl, ?_⟩) (by assumption) ?_
                  · intro wz _; go_simp; try rfl
                  try simp only [Act.put, List.getElem_toArray, List.getElem_cons_succ, List.getElem_cons_zero, List.setIfInBounds_toArray, List.set_cons_zero, List.set_cons_succ]
                  refine wpStg_one (i := 13) (by kernel_rfl) rfl (fun K hK => ?_)
                  go_simp
                  go_at_call 156
                  refine (ONE.out _).mono ?_
                  rintro e w9 ⟨rfl, rfl⟩
                  refine hK.out _ _ ?_ (fun hHeld => ?_)
                  · exact .keep hd2 (.keep hd3 .nil)
                  clear hK K
                  try simp only [Act.put, List.getElem_toArray, List.getElem_cons_succ, List.getElem_cons_zero, List.setIfInBounds_toArray, List.set_cons_zero, List.set_cons_succ]
                  refine wpStg_pure (i := 14) (v := .int .u32 (us : Int)) rfl (by kernel_rfl) (by kernel_rfl) (by kernel_rfl) (by kernel_rfl) (fun _ _ _ h => h) (Or.inl ⟨by rfl, ?_⟩) (by assumption) ?_
                  · intro wz _; go_simp; try rfl
                  try simp only [Act.put, List.getElem_toArray, List.getElem_cons_succ, List.getElem_cons_zero, List.setIfInBounds_toArray, List.set_cons_zero, List.set_cons_succ]
                  refine wpStg_pure (i := 15) (v := .pointer (some ⟨w1.heap.size + 1, 0, none⟩)) rfl (by kernel_rfl) (by kernel_rfl) (by kernel_rfl) (by kernel_rfl) (fun _ _ _ h => h) (Or.inl ⟨by rfl, ?_⟩) (by assumption) ?_
                  · intro wz _; go_simp; try rfl
                  try simp only [Act.put, List.getElem_toArray, List.getElem_cons_succ, List.getElem_cons_zero, List.setIfInBounds_toArray, List.set_cons_zero, List.set_cons_succ]
                  refine wpStg_pure (i := 16) (v := .pointer (some ⟨w1.heap.size + 1, 2, none⟩)) rfl (by kernel_rfl) (by kernel_rfl) (by kernel_rfl) (by kernel_rfl) (fun _ _ _ h => h) (Or.inl ⟨by rfl, ?_⟩) (by assumption) ?_
                  · intro wz _; go_simp; try rfl
                  try simp only [Act.put, List.getElem_toArray, List.getElem_cons_succ, List.getElem_cons_zero, List.setIfInBounds_toArray, List.set_cons_zero, List.set_cons_succ]
                  refine wpStg_one (i := 17) (by kernel_rfl) rfl (fun K hK => ?_)
                  go_simp
                  refine hK.out _ _ ?_ (fun hHeld => ?_)
                  · exact .skip (by kernel_rfl) (.keep hd3z .nil)
                  clear hK K
                  try simp only [Act.put, List.getElem_toArray, List.getElem_cons_succ, List.getElem_cons_zero, List.setIfInBounds_toArray, List.set_cons_zero, List.set_cons_succ]
                  refine wpStg_pure (i := 18) (v := .pointer (some ⟨w1.heap.size + 1, 0, none⟩)) rfl (by kernel_rfl) (by kernel_rfl) (by kernel_rfl) (by kernel_rfl) (fun _ _ _ h => h) (Or.inl ⟨by rfl, ?_⟩) (by assumption) ?_
                  · intro wz _; go_simp; try rfl
                  try simp only [Act.put, List.getElem_toArray, List.getElem_cons_succ, List.getElem_cons_zero, List.setIfInBounds_toArray, List.set_cons_zero, List.set_cons_succ]
                  refine wpStg_pure (i := 19) (v := .pointer (some ⟨w1.heap.size + 1, 3, none⟩)) rfl (by kernel_rfl) (by kernel_rfl) (by kernel_rfl) (by kernel_rfl) (fun _ _ _ h => h) (Or.inl ⟨by rfl, ?_⟩) (by assumption) ?_
                  · intro wz _; go_simp; try rfl
                  try simp only [Act.put, List.getElem_toArray, List.getElem_cons_succ, List.getElem_cons_zero, List.setIfInBounds_toArray, List.set_cons_zero, List.set_cons_succ]
                  refine wpStg_one (i := 20) (by kernel_rfl) rfl (fun K hK => ?_)
                  go_simp
                  refine hK.out _ _ ?_ (fun hHeld => ?_)
                  · exact .skip (by kernel_rfl) (.skip (by kernel_rfl) .nil)
                  clear hK K
                  try simp only [Act.put, List.getElem_toArray, List.getElem_cons_succ, List.getElem_cons_zero, List.setIfInBounds_toArray, List.set_cons_zero, List.set_cons_succ]
                  refine wpStg_done (by kernel_rfl) ?_ _
                  go_wp2_with fail
                  go_ret
                  have hfin : fitF n E F (r + 1) pre = some lf := fitTo_stop HFT.out (by omega)
                  rw [hfin]
                  exact ⟨rfl, _, _, by have := CUT.out; rw [TK.out] at this; exact this⟩
      · obtain rfl : v = n := by omega
        have HCI := Lib.hid hI
        have hfin : fitF v E F (r + 1) pre = none := HNO.out
        have HFN := Lib.hid hfin
        clear hI hfin
        go_wp2_with fail
        go_ret
        rw [HFN.out]
        exact ⟨rfl, _, _, HCI.out⟩

end Go.Proofs.YtkppbmfliejnmaaDoor
