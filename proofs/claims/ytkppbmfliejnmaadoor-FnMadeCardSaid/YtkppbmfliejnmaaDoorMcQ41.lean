/- Walk: the program's count of symmetries, recursive on the block of the search (printed by wip/mkMa.py out of mkMa.txt). -/
import Derived.Test.YtkppbmfliejnmaaDoorMcQ40
import Derived.Test.YtkppbmfliejnmaaDoorMcQ20
namespace Go.Proofs.YtkppbmfliejnmaaDoor
open Go.RowKit

set_option maxRecDepth 100000 in
set_option maxHeartbeats 1000000 in
theorem sym1_any (mb : Nat) (v : Value) (c : Nat) (hc : c ≤ 1000000000) (w : World) (hB : Box w mb 2 (.int .i64 (c : Int))) :
    Calls Tryd.prog 145 #[v, .pointer (some ⟨mb, 0, none⟩)] w fun e w' => e = .returned (.tuple #[]) ∧ w' = w.setCell ⟨mb, 0, none⟩ (.int .i64 ((c + 1 : Nat) : Int)) := by
  have hcx := hB.cell
  have hfx := hB.free
  have hwr : IntKind.i64.wrap ((c : Int) + 1) = ((c + 1 : Nat) : Int) := by rw [IntKind.wrap_i64]; omega
  clear hB
  go_enter Tryd.func145, Tryd.ntmps145
  go_wp2
  go_end0
  exact ⟨rfl, rfl⟩
set_option maxRecDepth 100000 in
set_option maxHeartbeats 1000000 in
theorem auto1_any (mb eb : Nat) (v : Value) (c : Nat) (hc : c ≤ 1000000000) (w : World) (hB : Box w mb 2 (.int .i64 (c : Int))) (hE : Box w eb 115 (.func (.func 145) #[] #[.pointer (some ⟨mb, 0, none⟩)])) :
    Calls Tryd.prog 205 #[v, .pointer (some ⟨eb, 0, none⟩)] w fun e w' => e = .returned (.bool false) ∧ w' = w.setCell ⟨mb, 0, none⟩ (.int .i64 ((c + 1 : Nat) : Int)) := by
  have hce := hE.cell
  have HB := Lib.hid hB
  clear hB hE
  go_enter Tryd.func205, Tryd.ntmps205
  go_wp2_with (go_at_call 145; refine (sym1_any mb _ c hc _ HB.out).mono ?_; rintro e w2 ⟨rfl, rfl⟩)
  go_ret
  exact ⟨rfl, rfl⟩

set_option maxRecDepth 100000 in
set_option maxHeartbeats 8000000 in
theorem cntGrow_any (w1 : World) (eb xb : Nat) (hp : Option Addr) (hc n : Nat) (E : Nat → Nat → Bool) (hm0 : 0 < n) (n8 : n ≤ 8) (K : Nat) (hK : K ≤ 900000000) :
    ∀ (r : Nat) (pre : List Nat) (us c : Nat) (ov : Value) (w : World), us = mask (natInts pre) → (∀ x ∈ pre, x < n) → pre.length + r = n → c + cntF n E E r pre ≤ K → FcI w1 w eb xb (.slice hp n hc) n E pre us ov c →
      Calls Tryd.prog 197 #[.pointer (some ⟨xb, 0, none⟩)] w fun e w' => e = .returned (.bool false) ∧ ∃ ov', FcI w1 w' eb xb (.slice hp n hc) n E pre us ov' (c + cntF n E E r pre) := by
  have n16 : n ≤ 16 := by omega
  intro r
  induction r with
  | zero =>
    intro pre us c ov w hus hin hlen hcK hI
    obtain ⟨op, oc, rfl, hoc⟩ := owns_capL hI.ord
    have HI := Lib.hid hI
    have hc1 := hI.cs.c1
    have hc2 := hI.cs.c2
    have hc4 := hI.cs.c4
    have heq : ((pre.length : Int) == (n : Int)) = true := by simp; omega
    have hcc : c ≤ 1000000000 := by omega
    have l1 := hI.lo1
    have l2 := hI.lo2
    clear hI hus hin
    go_enter Tryd.func197, Tryd.ntmps197
    go_upto_region 3 with fail
    go_cut [2] (fun s wx => s = .bool false ∧ ∃ ov', FcI w1 wx eb xb (.slice hp n hc) n E pre us ov' (c + 1))
    case first =>
      go_region_held3 (fun w' => w'.cell? ⟨xb, 4, none⟩ = some (.func (.func 205) #[] #[.pointer (some ⟨eb, 0, none⟩)]) ∧ w'.cell? ⟨xb, 2, none⟩ = some (.slice op pre.length oc))
        (first | exact ⟨hc4, hc2⟩ | go_keep | exact ⟨HK.out.cs.c4, HK.out.cs.c2⟩)
        (first | (go_at_call 205; refine (auto1_any w1.heap.size eb _ c hcc _ (HI.out.many.keep (below_dN (Below.refl _ _) 1)) (HI.out.each.keep (below_dN (Below.refl _ _) 1))).mono ?_; rintro e wa ⟨rfl, hwa⟩; (have HK : Hid (FcI w1 wa eb xb (.slice hp n hc) n E pre us (.slice op pre.length oc) (c + 1)) := Lib.hid (by rw [hwa]; exact (HI.out.next (below_dN (Below.refl _ _) 1)).one)); clear hwa))
      all_goals go_wp2
      all_goals go_meet
      all_goals exact ⟨rfl, _, HK.out⟩
    case rest =>
    obtain ⟨rfl, ov', hI2⟩ := hcut
    go_wp2_with fail
    go_ret
    exact ⟨rfl, ov', hI2⟩
  | succ r ih =>
    intro pre us c ov w hus hin hlen hcK hI
    have IH := Lib.hid ih
    have HUS := Lib.hid hus
    have HIN := Lib.hid hin
    have hus16 : us < 65536 := by rw [hus]; exact mask_nat16 fun u hu => by have := hin u hu; omega
    have hne : ((pre.length : Int) == (n : Int)) = false := beq_eq_false_iff_ne.2 (by omega)
    have hpm : pre.length < n := by omega
    obtain ⟨op0, oc0, rfl, hoc0⟩ := owns_capL hI.ord
    have hc0 := hI.cs.c0
    have hc1 := hI.cs.c1
    have hc2 := hI.cs.c2
    have HI := Lib.hid hI
    have HCK := Lib.hid hcK
    clear ih hus hin hI hcK
    go_enter Tryd.func197, Tryd.ntmps197
    go_wp2_with fail
    clear hc0 hc1 hc2
    go_loopw [35] (fun iv wr => ∃ (v : Nat) (ov : Value), v ≤ n ∧ iv = .int .i64 (v : Int) ∧ FcI w1 wr eb xb (.slice hp n hc) n E pre us ov (c + cntV n E E r pre v)) (fun iv _ => n - (intOf iv).toNat)
    case atStart => exact ⟨0, _, Nat.zero_le _, rfl, by rw [cntV_zero]; exact HI.out⟩
    case round =>
      clear HI hoc0
      obtain ⟨v, ov, hv, rfl, hI⟩ := hrel
      by_cases hlt : v < n
      · obtain ⟨op, oc, rfl, hoc⟩ := owns_capL hI.ord
        have hc0 := hI.cs.c0
        have hc1 := hI.cs.c1
        have hc2 := hI.cs.c2
        have hc3 := hI.cs.c3
        have hlx := hI.cs.lt
        have HCI := Lib.hid hI
        have HOR := Lib.hid hI.ord
        have HNP : Hid (Nums wr 3 .i64 (.slice op pre.length oc) (natInts pre)) := Lib.hid (Nums.of_owns hI.ord (natInts_length pre).symm (by omega))
        have hvi : (v : Int) < (n : Int) := by omega
        have hbm := bit_natMask pre v
        rw [← HUS.out] at hbm
        clear hI
        by_cases hvp : v ∈ pre
        · have HDU : Hid (us.testBit v = true) := Lib.hid (by rw [hbm]; exact decide_eq_true hvp)
          have HVP := Lib.hid hvp
          clear hbm hvp
          go_wp2_with (go_at_call 175; refine (has_any _ _ us v rfl rfl (by omega) (by omega) _).mono ?_; rintro e wa ⟨he, rfl⟩; rw [HDU.out] at he; subst he)
          go_roundw
          case rel => exact ⟨v + 1, _, by omega, by go_num, by rw [cntV_no fun h => h.1 HVP.out]; exact HCI.out⟩
          case measure => simp [intOf]; omega
        · have HDU : Hid (us.testBit v = false) := Lib.hid (by rw [hbm]; exact decide_eq_false hvp)
          have HVP := Lib.hid hvp
          obtain ⟨wo, hwo⟩ : ∃ wo, wo = wr := ⟨_, rfl⟩
          clear hbm hvp
          go_wp2_with (go_at_call 175; refine (has_any _ _ us v rfl rfl (by omega) (by omega) _).mono ?_; rintro e wa ⟨he, rfl⟩; rw [HDU.out] at he; subst he)
          go_loopw [5, 49] (fun fv' kv wx => ∃ (k : Nat) (b : Bool), k ≤ pre.length ∧ fv' = .bool b ∧ kv = .int .i64 (k : Int) ∧ Hid (b = true ↔ ∀ j (h : j < pre.length), j < k → E v pre[j] = E pre.length j) ∧ Below wo.heap.size wo wx) (fun _ kv _ => pre.length - (intOf kv).toNat)
          case atStart => exact ⟨0, true, Nat.zero_le _, rfl, rfl, Lib.hid ⟨fun _ j _ h => absurd h (Nat.not_lt_zero _), fun _ => rfl⟩, by rw [hwo]; exact Below.refl _ _⟩
          case round =>
            rw [← hwo] at HCI HOR HNP hc0 hc1 hc2 hc3 hlx
            clear hwo
            obtain ⟨k, b, hk, rfl, rfl, HBF, hbx⟩ := hrel
            by_cases hkl : k < pre.length
            · obtain ⟨u, hu⟩ : ∃ u, u = pre[k] := ⟨_, rfl⟩
              have hun : u < n := by rw [hu]; exact HIN.out _ (List.getElem_mem hkl)
              have HU := Lib.hid hu
              obtain ⟨qb, qo, hqp, hq⟩ := (HNP.out.below hbx).get (k := k) (by rw [natInts_length]; exact hkl)
              have e1 : (natInts pre)[k]'(by rw [natInts_length]; exact hkl) = (u : Int) := by rw [hu]; simp [natInts]
              rw [e1] at hq
              have hki : (k : Int) < (pre.length : Int) := by omega
              have HBX := Lib.hid hbx
              cases b
              · clear e1 hu hbx
                subst hqp
                go_upto_region 12 with fail
                refine wp_region_held_drew (S := (fun _ => True)) (by kernel_rfl) ?_ (fun hHeld => ?_)
                · trivial
                refine wpAnyH_take (i := 0) (v := .bool false) rfl (by kernel_rfl) (by kernel_rfl) (by kernel_rfl) (fun _ _ _ h => h) (Or.inl ⟨by rfl, ?_⟩) (by assumption) ?_
                · intro wz hSw; (try dsimp only at hSw); go_simp; try rfl
                try simp only [Act.put, List.getElem_toArray, List.getElem_cons_succ, List.getElem_cons_zero, List.setIfInBounds_toArray, List.set_cons_zero, List.set_cons_succ]
                refine wpAnyH_take (i := 1) (v := .bool false) rfl (by kernel_rfl) (by kernel_rfl) (by kernel_rfl) (fun _ _ _ h => h) (Or.inl ⟨by rfl, ?_⟩) (by assumption) ?_
                · intro wz hSw; (try dsimp only at hSw); go_simp; try rfl
                try simp only [Act.put, List.getElem_toArray, List.getElem_cons_succ, List.getElem_cons_zero, List.setIfInBounds_toArray, List.set_cons_zero, List.set_cons_succ]
                refine wpAnyH_take (i := 2) (v := undef) rfl (by kernel_rfl) (by kernel_rfl) (by kernel_rfl) (fun _ _ _ h => h) (Or.inr ⟨by kernel_rfl, rfl⟩) (by assumption) ?_
                try simp only [Act.put, List.getElem_toArray, List.getElem_cons_succ, List.getElem_cons_zero, List.setIfInBounds_toArray, List.set_cons_zero, List.set_cons_succ]
                refine wpAnyH_take (i := 3) (v := undef) rfl (by kernel_rfl) (by kernel_rfl) (by kernel_rfl) (fun _ _ _ h => h) (Or.inr ⟨by kernel_rfl, rfl⟩) (by assumption) ?_
                try simp only [Act.put, List.getElem_toArray, List.getElem_cons_succ, List.getElem_cons_zero, List.setIfInBounds_toArray, List.set_cons_zero, List.set_cons_succ]
                refine wpAnyH_take (i := 4) (v := undef) rfl (by kernel_rfl) (by kernel_rfl) (by kernel_rfl) (fun _ _ _ h => h) (Or.inr ⟨by kernel_rfl, rfl⟩) (by assumption) ?_
                try simp only [Act.put, List.getElem_toArray, List.getElem_cons_succ, List.getElem_cons_zero, List.setIfInBounds_toArray, List.set_cons_zero, List.set_cons_succ]
                refine wpAnyH_take (i := 5) (v := undef) rfl (by kernel_rfl) (by kernel_rfl) (by kernel_rfl) (fun _ _ _ h => h) (Or.inr ⟨by kernel_rfl, rfl⟩) (by assumption) ?_
                try simp only [Act.put, List.getElem_toArray, List.getElem_cons_succ, List.getElem_cons_zero, List.setIfInBounds_toArray, List.set_cons_zero, List.set_cons_succ]
                refine wpAnyH_take (i := 6) (v := undef) rfl (by kernel_rfl) (by kernel_rfl) (by kernel_rfl) (fun _ _ _ h => h) (Or.inr ⟨by kernel_rfl, rfl⟩) (by assumption) ?_
                try simp only [Act.put, List.getElem_toArray, List.getElem_cons_succ, List.getElem_cons_zero, List.setIfInBounds_toArray, List.set_cons_zero, List.set_cons_succ]
                refine wpAnyH_take (i := 7) (v := undef) rfl (by kernel_rfl) (by kernel_rfl) (by kernel_rfl) (fun _ _ _ h => h) (Or.inr ⟨by kernel_rfl, rfl⟩) (by assumption) ?_
                try simp only [Act.put, List.getElem_toArray, List.getElem_cons_succ, List.getElem_cons_zero, List.setIfInBounds_toArray, List.set_cons_zero, List.set_cons_succ]
                refine wpAnyH_take (i := 8) (v := undef) rfl (by kernel_rfl) (by kernel_rfl) (by kernel_rfl) (fun _ _ _ h => h) (Or.inr ⟨by kernel_rfl, rfl⟩) (by assumption) ?_
                try simp only [Act.put, List.getElem_toArray, List.getElem_cons_succ, List.getElem_cons_zero, List.setIfInBounds_toArray, List.set_cons_zero, List.set_cons_succ]
                refine wpAnyH_take (i := 9) (v := undef) rfl (by kernel_rfl) (by kernel_rfl) (by kernel_rfl) (fun _ _ _ h => h) (Or.inr ⟨by kernel_rfl, rfl⟩) (by assumption) ?_
                try simp only [Act.put, List.getElem_toArray, List.getElem_cons_succ, List.getElem_cons_zero, List.setIfInBounds_toArray, List.set_cons_zero, List.set_cons_succ]
                refine wpAnyH_take (i := 10) (v := undef) rfl (by kernel_rfl) (by kernel_rfl) (by kernel_rfl) (fun _ _ _ h => h) (Or.inr ⟨by kernel_rfl, rfl⟩) (by assumption) ?_
                try simp only [Act.put, List.getElem_toArray, List.getElem_cons_succ, List.getElem_cons_zero, List.setIfInBounds_toArray, List.set_cons_zero, List.set_cons_succ]
                refine wpAnyH_take (i := 11) (v := undef) rfl (by kernel_rfl) (by kernel_rfl) (by kernel_rfl) (fun _ _ _ h => h) (Or.inr ⟨by kernel_rfl, rfl⟩) (by assumption) ?_
                try simp only [Act.put, List.getElem_toArray, List.getElem_cons_succ, List.getElem_cons_zero, List.setIfInBounds_toArray, List.set_cons_zero, List.set_cons_succ]
                refine wpAnyH_take (i := 12) (v := undef) rfl (by kernel_rfl) (by kernel_rfl) (by kernel_rfl) (fun _ _ _ h => h) (Or.inr ⟨by kernel_rfl, rfl⟩) (by assumption) ?_
                try simp only [Act.put, List.getElem_toArray, List.getElem_cons_succ, List.getElem_cons_zero, List.setIfInBounds_toArray, List.set_cons_zero, List.set_cons_succ]
                refine wpAnyH_take (i := 13) (v := undef) rfl (by kernel_rfl) (by kernel_rfl) (by kernel_rfl) (fun _ _ _ h => h) (Or.inr ⟨by kernel_rfl, rfl⟩) (by assumption) ?_
                try simp only [Act.put, List.getElem_toArray, List.getElem_cons_succ, List.getElem_cons_zero, List.setIfInBounds_toArray, List.set_cons_zero, List.set_cons_succ]
                refine wpAnyH_take (i := 14) (v := undef) rfl (by kernel_rfl) (by kernel_rfl) (by kernel_rfl) (fun _ _ _ h => h) (Or.inr ⟨by kernel_rfl, rfl⟩) (by assumption) ?_
                try simp only [Act.put, List.getElem_toArray, List.getElem_cons_succ, List.getElem_cons_zero, List.setIfInBounds_toArray, List.set_cons_zero, List.set_cons_succ]
                refine wpAnyH_take (i := 15) (v := undef) rfl (by kernel_rfl) (by kernel_rfl) (by kernel_rfl) (fun _ _ _ h => h) (Or.inr ⟨by kernel_rfl, rfl⟩) (by assumption) ?_
                try simp only [Act.put, List.getElem_toArray, List.getElem_cons_succ, List.getElem_cons_zero, List.setIfInBounds_toArray, List.set_cons_zero, List.set_cons_succ]
                refine wpAnyH_take (i := 16) (v := undef) rfl (by kernel_rfl) (by kernel_rfl) (by kernel_rfl) (fun _ _ _ h => h) (Or.inr ⟨by kernel_rfl, rfl⟩) (by assumption) ?_
                try simp only [Act.put, List.getElem_toArray, List.getElem_cons_succ, List.getElem_cons_zero, List.setIfInBounds_toArray, List.set_cons_zero, List.set_cons_succ]
                refine wpAnyH_take (i := 17) (v := undef) rfl (by kernel_rfl) (by kernel_rfl) (by kernel_rfl) (fun _ _ _ h => h) (Or.inr ⟨by kernel_rfl, rfl⟩) (by assumption) ?_
                try simp only [Act.put, List.getElem_toArray, List.getElem_cons_succ, List.getElem_cons_zero, List.setIfInBounds_toArray, List.set_cons_zero, List.set_cons_succ]
                refine wpAnyH_take (i := 18) (v := undef) rfl (by kernel_rfl) (by kernel_rfl) (by kernel_rfl) (fun _ _ _ h => h) (Or.inr ⟨by kernel_rfl, rfl⟩) (by assumption) ?_
                try simp only [Act.put, List.getElem_toArray, List.getElem_cons_succ, List.getElem_cons_zero, List.setIfInBounds_toArray, List.set_cons_zero, List.set_cons_succ]
                refine wpAnyH_take (i := 19) (v := undef) rfl (by kernel_rfl) (by kernel_rfl) (by kernel_rfl) (fun _ _ _ h => h) (Or.inr ⟨by kernel_rfl, rfl⟩) (by assumption) ?_
                try simp only [Act.put, List.getElem_toArray, List.getElem_cons_succ, List.getElem_cons_zero, List.setIfInBounds_toArray, List.set_cons_zero, List.set_cons_succ]
                refine wpAnyH_take (i := 20) (v := undef) rfl (by kernel_rfl) (by kernel_rfl) (by kernel_rfl) (fun _ _ _ h => h) (Or.inr ⟨by kernel_rfl, rfl⟩) (by assumption) ?_
                try simp only [Act.put, List.getElem_toArray, List.getElem_cons_succ, List.getElem_cons_zero, List.setIfInBounds_toArray, List.set_cons_zero, List.set_cons_succ]
                refine wpAnyH_take (i := 21) (v := .bool false) rfl (by kernel_rfl) (by kernel_rfl) (by kernel_rfl) (fun _ _ _ h => h) (Or.inl ⟨by rfl, ?_⟩) (by assumption) ?_
                · intro wz hSw; (try dsimp only at hSw); go_simp; try rfl
                try simp only [Act.put, List.getElem_toArray, List.getElem_cons_succ, List.getElem_cons_zero, List.setIfInBounds_toArray, List.set_cons_zero, List.set_cons_succ]
                refine wpAnyH_take (i := 22) (v := .bool false) rfl (by kernel_rfl) (by kernel_rfl) (by kernel_rfl) (fun _ _ _ h => h) (Or.inl ⟨by rfl, ?_⟩) (by assumption) ?_
                · intro wz hSw; (try dsimp only at hSw); go_simp; try rfl
                try simp only [Act.put, List.getElem_toArray, List.getElem_cons_succ, List.getElem_cons_zero, List.setIfInBounds_toArray, List.set_cons_zero, List.set_cons_succ]
                refine wpAnyH_done (by kernel_rfl) ?_ _
                go_wp2
                go_roundw
                case rel => exact ⟨k + 1, false, by omega, rfl, by go_num, Lib.hid ⟨fun h => (by cases h), fun h => HBF.out.2 fun j hj hjk => h j hj (by omega)⟩, HBX.out.trans (below_dN (Below.refl _ _) 1)⟩
                case measure => simp [intOf]; omega
              · obtain ⟨hb, ho, a, hhp, hca, ha16, hab⟩ := (HCI.out.net.next hbx).get hlt
                obtain ⟨pb, po, d, hpp, hcd, hd16, hdb⟩ := (HCI.out.net.next hbx).get hpm
                have HAB : Hid (a.testBit u = E v u) := Lib.hid (by rw [hab u]; simp [hun])
                have HDB : Hid (d.testBit k = E pre.length k) := Lib.hid (by rw [hdb k]; simp; intro; omega)
                have hx0 := hbx.at' hc0
                have hx1 := hbx.at' hc1
                have HBD := Lib.hid (below_dN (Below.refl wr.heap.size wr) 1)
                obtain ⟨ba, hba⟩ : ∃ ba, ba = E v u := ⟨_, rfl⟩
                obtain ⟨bd, hbd⟩ : ∃ bd, bd = E pre.length k := ⟨_, rfl⟩
                rw [← hba] at HAB
                rw [← hbd] at HDB
                have HBA := Lib.hid hba
                have HBDD := Lib.hid hbd
                have hpl16 : pre.length < 16 := by omega
                have hpmi : (pre.length : Int) < (n : Int) := by omega
                have hui : u < 32 := by omega
                clear e1 hu hbx hab hdb hba hbd
                subst hqp
                go_upto_region 12 with fail
                obtain ⟨rfl, rfl⟩ : hb = pb ∧ ho = po := by
                  rw [hhp] at hpp
                  simp only [Option.some.injEq, Addr.mk.injEq] at hpp
                  exact ⟨hpp.1, hpp.2.1⟩
                clear hpp
                subst hhp
                have HREL : Hid ((ba == bd) = true ↔ ∀ j (h : j < pre.length), j < k + 1 → E v pre[j] = E pre.length j) := Lib.hid (by
                  rw [HBA.out, HBDD.out, beq_iff_eq]
                  constructor
                  · intro h j hj hjk
                    by_cases e : j < k
                    · exact HBF.out.1 rfl j hj e
                    · obtain rfl : j = k := by omega
                      rw [← HU.out]; exact h
                  · intro h
                    have := h k hkl (Nat.lt_succ_self _)
                    rwa [← HU.out] at this)
                go_region_held3 (fun w' => w'.cell? ⟨xb, 0, none⟩ = some (.slice (some ⟨hb, ho, none⟩) n hc) ∧ w'.cell? ⟨xb, 1, none⟩ = some (.slice (some ⟨hb, ho, none⟩) n hc) ∧ w'.cell? ⟨hb, ho + v, none⟩ = some (.int .u32 (a : Int)) ∧ w'.cell? ⟨hb, ho + pre.length, none⟩ = some (.int .u32 (d : Int)))
                  (first | exact ⟨hx0, hx1, hca, hcd⟩ | exact ⟨HBD.out.at' hx0, HBD.out.at' hx1, HBD.out.at' hca, HBD.out.at' hcd⟩ | go_keep)
                  (first
                    | (have X1 := MK1; go_at_call 175; refine (has_any _ _ d k rfl rfl (by omega) (by omega) _).mono ?_; rintro e wa ⟨he, hw⟩; rw [HDB.out] at he; subst he; subst hw)
                    | (go_at_call 175; refine (has_any _ _ a u rfl rfl (by omega) (by omega) _).mono ?_; rintro e wa ⟨he, hw⟩; rw [HAB.out] at he; subst he; subst hw; have MK1 := trivial))
                all_goals go_wp2
                all_goals go_roundw
                all_goals first
                  | exact ⟨k + 1, ba == bd, by omega, rfl, by go_num, HREL, HBX.out.trans (below_dN (Below.refl _ _) 1)⟩
                  | (simp [intOf]; omega)
            · obtain rfl : k = pre.length := by omega
              have HCI2 := Lib.hid (HCI.out.next hbx)
              clear HCI HOR HNP hc0 hc1 hc2 hc3 hlx hbx
              have HCI := HCI2
              have hc2 := HCI.out.cs.c2
              have hc3 := HCI.out.cs.c3
              have hlx := HCI.out.cs.lt
              have HOR := Lib.hid HCI.out.ord
              cases b
              · have HNOK : Hid (¬ okV E E pre v) := Lib.hid (fun h => by
                  have := HBF.out.2 fun j hj _ => h.2 j hj
                  cases this)
                go_wp2_with fail
                go_roundw
                case rel => exact ⟨v + 1, _, by omega, by go_num, by rw [cntV_no HNOK.out]; exact HCI.out⟩
                case measure => simp [intOf]; omega
              · have HOK : Hid (okV E E pre v) := Lib.hid ⟨HVP.out, fun j hj => HBF.out.1 rfl j hj hj⟩
                obtain ⟨pv, hpv⟩ : ∃ pv, pv = 2 ^ v := ⟨_, rfl⟩
                have hp16 : pv < 65536 := by rw [hpv]; exact pow_lt16 v (by omega)
                have ONE : Hid (∀ w, Calls Tryd.prog 156 #[.int .i64 (v : Int)] w fun e w' => e = .returned (.int .u32 (pv : Int)) ∧ w = w') := Lib.hid (by rw [hpv]; exact fun w => one_any (v : Int) v rfl (by omega) w)
                obtain ⟨us2, hus2⟩ : ∃ us2, us2 = us ||| pv := ⟨_, rfl⟩
                have hor : bits BinOp.or IntKind.u32 (us : Int) (pv : Int) = (us2 : Int) := by rw [hus2]; exact or_u32 us pv hus16 hp16
                have h216 : us2 < 65536 := by rw [hus2]; exact or_lt16 us pv hus16 hp16
                have hand : bits BinOp.andNot IntKind.u32 (us2 : Int) (pv : Int) = (us : Int) := by
                  have := u32_andNot_nat us2 pv (by omega) (by omega)
                  rw [this, hus2, HUS.out, hpv]
                  have h3 := mask_back (o := pre) (v := v) (fun u hu => by have := HIN.out u hu; omega) (by omega) HVP.out
                  show ((sub (mask (natInts pre) ||| 2 ^ v) (2 ^ v) : Nat) : Int) = _
                  rw [h3]
                have I1 : Hid (us2 = mask (natInts (pre ++ [v]))) := Lib.hid (by rw [hus2, HUS.out, hpv, mask_app])
                have I2 : Hid (∀ x ∈ pre ++ [v], x < n) := Lib.hid (fun x hx => by
                  rcases List.mem_append.1 hx with h | h
                  · exact HIN.out x h
                  · rw [List.mem_singleton] at h; omega)
                have I3 : Hid ((pre ++ [v]).length + r = n) := Lib.hid (by rw [List.length_append, List.length_singleton]; omega)
                have LO : Hid ((pre ++ [v]).length = pre.length + 1) := Lib.hid (by simp)
                have TK : Hid ((pre ++ [v]).take pre.length = pre) := Lib.hid (by simp)
                have HFT : Hid (cntV n E E r pre (v + 1) = cntV n E E r pre v + cntF n E E r (pre ++ [v])) := Lib.hid (cntV_yes HOK.out)
                have HCK2 : Hid (c + cntV n E E r pre v + cntF n E E r (pre ++ [v]) ≤ K) := Lib.hid (by
                  have h1 := cntV_le n E E r pre (v := v + 1) (by omega)
                  have h2 := HCK.out
                  rw [HFT.out] at h1
                  omega)
                clear hpv hus2
                go_upto_region 15 with fail
                refine wp_region_stg [(18, fun w' => w'.cell? ⟨xb, 2, none⟩ = some (.slice op pre.length oc)), (21, fun w' => w'.cell? ⟨xb, 3, none⟩ = some (.int .u32 (us : Int)))] (by kernel_rfl) ?_ (fun hHeld => ?_)
                · exact .keep hc2 (.keep hc3 .nil)
                refine wpStg_pure (i := 0) (v := .pointer (some ⟨xb, 0, none⟩)) rfl (by kernel_rfl) (by kernel_rfl) (by kernel_rfl) (by kernel_rfl) (fun _ _ _ h => h) (Or.inl ⟨by rfl, ?_⟩) (by assumption) ?_
                · intro wz _; go_simp; try rfl
                try simp only [Act.put, List.getElem_toArray, List.getElem_cons_succ, List.getElem_cons_zero, List.setIfInBounds_toArray, List.set_cons_zero, List.set_cons_succ]
                refine wpStg_pure (i := 1) (v := .pointer (some ⟨xb, 0, none⟩)) rfl (by kernel_rfl) (by kernel_rfl) (by kernel_rfl) (by kernel_rfl) (fun _ _ _ h => h) (Or.inl ⟨by rfl, ?_⟩) (by assumption) ?_
                · intro wz _; go_simp; try rfl
                try simp only [Act.put, List.getElem_toArray, List.getElem_cons_succ, List.getElem_cons_zero, List.setIfInBounds_toArray, List.set_cons_zero, List.set_cons_succ]
                refine wpStg_pure (i := 2) (v := .pointer (some ⟨xb, 0, none⟩)) rfl (by kernel_rfl) (by kernel_rfl) (by kernel_rfl) (by kernel_rfl) (fun _ _ _ h => h) (Or.inl ⟨by rfl, ?_⟩) (by assumption) ?_
                · intro wz _; go_simp; try rfl
                try simp only [Act.put, List.getElem_toArray, List.getElem_cons_succ, List.getElem_cons_zero, List.setIfInBounds_toArray, List.set_cons_zero, List.set_cons_succ]
                refine wpStg_pure (i := 3) (v := .pointer (some ⟨xb, 0, none⟩)) rfl (by kernel_rfl) (by kernel_rfl) (by kernel_rfl) (by kernel_rfl) (fun _ _ _ h => h) (Or.inl ⟨by rfl, ?_⟩) (by assumption) ?_
                · intro wz _; go_simp; try rfl
                try simp only [Act.put, List.getElem_toArray, List.getElem_cons_succ, List.getElem_cons_zero, List.setIfInBounds_toArray, List.set_cons_zero, List.set_cons_succ]
                refine wpStg_pure (i := 4) (v := .pointer (some ⟨xb, 2, none⟩)) rfl (by kernel_rfl) (by kernel_rfl) (by kernel_rfl) (by kernel_rfl) (fun _ _ _ h => h) (Or.inl ⟨by rfl, ?_⟩) (by assumption) ?_
                · intro wz _; go_simp; try rfl
                try simp only [Act.put, List.getElem_toArray, List.getElem_cons_succ, List.getElem_cons_zero, List.setIfInBounds_toArray, List.set_cons_zero, List.set_cons_succ]
                refine wpStg_take (m := 0) (i := 5) (v := .slice op pre.length oc) rfl rfl (by kernel_rfl) (by kernel_rfl) (by kernel_rfl) (by kernel_rfl) (by kernel_rfl) (by kernel_rfl) (fun _ _ _ h => h) (Or.inl ⟨by rfl, ?_⟩) (by assumption) ?_
                · intro wz hSw; (try dsimp only at hSw); go_simp; try rfl
                try simp only [Act.put, List.getElem_toArray, List.getElem_cons_succ, List.getElem_cons_zero, List.setIfInBounds_toArray, List.set_cons_zero, List.set_cons_succ]
                refine wpStg_pure (i := 6) (v := .int .i64 (v : Int)) rfl (by kernel_rfl) (by kernel_rfl) (by kernel_rfl) (by kernel_rfl) (fun _ _ _ h => h) (Or.inl ⟨by rfl, ?_⟩) (by assumption) ?_
                · intro wz _; go_simp; try rfl
                try simp only [Act.put, List.getElem_toArray, List.getElem_cons_succ, List.getElem_cons_zero, List.setIfInBounds_toArray, List.set_cons_zero, List.set_cons_succ]
                refine wpStg_pure (i := 9) (v := .pointer (some ⟨xb, 0, none⟩)) rfl (by kernel_rfl) (by kernel_rfl) (by kernel_rfl) (by kernel_rfl) (fun _ _ _ h => h) (Or.inl ⟨by rfl, ?_⟩) (by assumption) ?_
                · intro wz _; go_simp; try rfl
                try simp only [Act.put, List.getElem_toArray, List.getElem_cons_succ, List.getElem_cons_zero, List.setIfInBounds_toArray, List.set_cons_zero, List.set_cons_succ]
                refine wpStg_pure (i := 10) (v := .pointer (some ⟨xb, 0, none⟩)) rfl (by kernel_rfl) (by kernel_rfl) (by kernel_rfl) (by kernel_rfl) (fun _ _ _ h => h) (Or.inl ⟨by rfl, ?_⟩) (by assumption) ?_
                · intro wz _; go_simp; try rfl
                try simp only [Act.put, List.getElem_toArray, List.getElem_cons_succ, List.getElem_cons_zero, List.setIfInBounds_toArray, List.set_cons_zero, List.set_cons_succ]
                refine wpStg_pure (i := 11) (v := .pointer (some ⟨xb, 3, none⟩)) rfl (by kernel_rfl) (by kernel_rfl) (by kernel_rfl) (by kernel_rfl) (fun _ _ _ h => h) (Or.inl ⟨by rfl, ?_⟩) (by assumption) ?_
                · intro wz _; go_simp; try rfl
                try simp only [Act.put, List.getElem_toArray, List.getElem_cons_succ, List.getElem_cons_zero, List.setIfInBounds_toArray, List.set_cons_zero, List.set_cons_succ]
                refine wpStg_take (m := 1) (i := 12) (v := .int .u32 (us : Int)) rfl rfl (by kernel_rfl) (by kernel_rfl) (by kernel_rfl) (by kernel_rfl) (by kernel_rfl) (by kernel_rfl) (fun _ _ _ h => h) (Or.inl ⟨by rfl, ?_⟩) (by assumption) ?_
                · intro wz hSw; (try dsimp only at hSw); go_simp; try rfl
                try simp only [Act.put, List.getElem_toArray, List.getElem_cons_succ, List.getElem_cons_zero, List.setIfInBounds_toArray, List.set_cons_zero, List.set_cons_succ]
                refine wpStg_pure (i := 13) (v := .int .i64 (v : Int)) rfl (by kernel_rfl) (by kernel_rfl) (by kernel_rfl) (by kernel_rfl) (fun _ _ _ h => h) (Or.inl ⟨by rfl, ?_⟩) (by assumption) ?_
                · intro wz _; go_simp; try rfl
                try simp only [Act.put, List.getElem_toArray, List.getElem_cons_succ, List.getElem_cons_zero, List.setIfInBounds_toArray, List.set_cons_zero, List.set_cons_succ]
                refine wpStg_one (i := 7) (by kernel_rfl) rfl (fun K hK => ?_)
                go_simp
                refine hK.out _ _ ?_ (fun hHeld => ?_)
                · exact .keep ((below_alloc _ _).at' hc2) (.keep ((below_alloc _ _).at' hc3) .nil)
                clear hK K
                try simp only [Act.put, List.getElem_toArray, List.getElem_cons_succ, List.getElem_cons_zero, List.setIfInBounds_toArray, List.set_cons_zero, List.set_cons_succ]
                refine wpStg_one (i := 8) (by kernel_rfl) rfl (fun K hK => ?_)
                refine step_app1f ty_int (w := wr.drew) (s := .tmp 84) (x := .tmp 86) (v := .slice op pre.length oc) (n := pre.length) (xs := (natInts pre).map (Value.int .i64)) (base := xb + 1) (el := .int .i64 (v : Int)) rfl rfl rfl HOR.out rfl rfl (by omega) (show xb + 1 ≤ wr.heap.size from Nat.succ_le_of_lt hlx) ?_
                intro b8 c8 w8 hown8 hg8 _
                have hg8x : wr.grownBy w8 (Value.slice op pre.length oc).ownBlock := ⟨hg8.os, hg8.tape, hg8.output, hg8.size, hg8.block⟩
                have hx8 : w8.heap[xb]? = _ := hg8x.block _ hlx (fun e => by have := (HOR.out.lt _ e.symm).1; omega)
                have C8 := HCI.out.cs.to hx8
                have O8 := Lib.hid (HCI.out.push (us' := us2) hown8 hg8x)
                have hc2y := C8.c2
                have hc3y := C8.c3
                have hf2y := C8.free 2
                have hc3z := (C8.s2 (.slice (some ⟨b8, 0, none⟩) (pre.length + 1) c8)).c3
                have hf3z := (C8.s2 (.slice (some ⟨b8, 0, none⟩) (pre.length + 1) c8)).free 3
                clear hown8 hg8 hg8x hx8 C8
                refine hK.out _ _ ?_ (fun hHeld => ?_)
                · exact .keep hc2y (.keep hc3y .nil)
                clear hK K
                try simp only [Act.put, List.getElem_toArray, List.getElem_cons_succ, List.getElem_cons_zero, List.setIfInBounds_toArray, List.set_cons_zero, List.set_cons_succ]
                refine wpStg_one (i := 14) (by kernel_rfl) rfl (fun K hK => ?_)
                go_simp
                go_at_call 156
                refine (ONE.out _).mono ?_
                rintro e w9 ⟨rfl, rfl⟩
                refine hK.out _ _ ?_ (fun hHeld => ?_)
                · exact .keep hc2y (.keep hc3y .nil)
                clear hK K
                try simp only [Act.put, List.getElem_toArray, List.getElem_cons_succ, List.getElem_cons_zero, List.setIfInBounds_toArray, List.set_cons_zero, List.set_cons_succ]
                refine wpStg_pure (i := 15) (v := .int .u32 (us2 : Int)) rfl (by kernel_rfl) (by kernel_rfl) (by kernel_rfl) (by kernel_rfl) (fun _ _ _ h => h) (Or.inl ⟨by rfl, ?_⟩) (by assumption) ?_
                · intro wz _; go_simp; try rfl
                try simp only [Act.put, List.getElem_toArray, List.getElem_cons_succ, List.getElem_cons_zero, List.setIfInBounds_toArray, List.set_cons_zero, List.set_cons_succ]
                refine wpStg_pure (i := 16) (v := .pointer (some ⟨xb, 0, none⟩)) rfl (by kernel_rfl) (by kernel_rfl) (by kernel_rfl) (by kernel_rfl) (fun _ _ _ h => h) (Or.inl ⟨by rfl, ?_⟩) (by assumption) ?_
                · intro wz _; go_simp; try rfl
                try simp only [Act.put, List.getElem_toArray, List.getElem_cons_succ, List.getElem_cons_zero, List.setIfInBounds_toArray, List.set_cons_zero, List.set_cons_succ]
                refine wpStg_pure (i := 17) (v := .pointer (some ⟨xb, 2, none⟩)) rfl (by kernel_rfl) (by kernel_rfl) (by kernel_rfl) (by kernel_rfl) (fun _ _ _ h => h) (Or.inl ⟨by rfl, ?_⟩) (by assumption) ?_
                · intro wz _; go_simp; try rfl
                try simp only [Act.put, List.getElem_toArray, List.getElem_cons_succ, List.getElem_cons_zero, List.setIfInBounds_toArray, List.set_cons_zero, List.set_cons_succ]
                refine wpStg_one (i := 18) (by kernel_rfl) rfl (fun K hK => ?_)
                go_simp
                refine hK.out _ _ ?_ (fun hHeld => ?_)
                · exact .skip (by kernel_rfl) (.keep hc3z .nil)
                clear hK K
                try simp only [Act.put, List.getElem_toArray, List.getElem_cons_succ, List.getElem_cons_zero, List.setIfInBounds_toArray, List.set_cons_zero, List.set_cons_succ]
                refine wpStg_pure (i := 19) (v := .pointer (some ⟨xb, 0, none⟩)) rfl (by kernel_rfl) (by kernel_rfl) (by kernel_rfl) (by kernel_rfl) (fun _ _ _ h => h) (Or.inl ⟨by rfl, ?_⟩) (by assumption) ?_
                · intro wz _; go_simp; try rfl
                try simp only [Act.put, List.getElem_toArray, List.getElem_cons_succ, List.getElem_cons_zero, List.setIfInBounds_toArray, List.set_cons_zero, List.set_cons_succ]
                refine wpStg_pure (i := 20) (v := .pointer (some ⟨xb, 3, none⟩)) rfl (by kernel_rfl) (by kernel_rfl) (by kernel_rfl) (by kernel_rfl) (fun _ _ _ h => h) (Or.inl ⟨by rfl, ?_⟩) (by assumption) ?_
                · intro wz _; go_simp; try rfl
                try simp only [Act.put, List.getElem_toArray, List.getElem_cons_succ, List.getElem_cons_zero, List.setIfInBounds_toArray, List.set_cons_zero, List.set_cons_succ]
                refine wpStg_one (i := 21) (by kernel_rfl) rfl (fun K hK => ?_)
                go_simp
                refine hK.out _ _ ?_ (fun hHeld => ?_)
                · exact .skip (by kernel_rfl) (.skip (by kernel_rfl) .nil)
                clear hK K
                try simp only [Act.put, List.getElem_toArray, List.getElem_cons_succ, List.getElem_cons_zero, List.setIfInBounds_toArray, List.set_cons_zero, List.set_cons_succ]
                refine wpStg_done (by kernel_rfl) ?_ _
                go_upto_region 17 with (go_at_call 197; refine (IH.out (pre ++ [v]) us2 _ _ _ I1.out I2.out I3.out HCK2.out O8.out).mono ?_; rintro e w10 ⟨rfl, ov2, hci2⟩; have HC2 := Lib.hid hci2; clear hci2)
                clear hc2y hc3y hf2y hc3z hf3z O8 HCI HOR hc2 hc3
                have hci3 := HC2.out
                obtain ⟨op2, oc2, rfl, hoc2⟩ := owns_capL hci3.ord
                have CUT := Lib.hid ((hci3.cut (i := pre.length) (by rw [LO.out]; omega) us).next (below_dN (Below.refl _ _) 1))
                obtain ⟨lo2, hlo2⟩ : ∃ lo2, lo2 = (pre ++ [v]).length := ⟨_, rfl⟩
                have hcs := hci3.cs
                rw [← hlo2] at hcs hoc2
                have hlo3 := LO.out
                rw [← hlo2] at hlo3
                have hso : (pre.length : Int) ≤ (oc2 : Int) := by omega
                have hd2 := hcs.c2
                have hd3 := hcs.c3
                have hfd2 := hcs.free 2
                have hd3z := (hcs.s2 (.slice op2 pre.length oc2)).c3
                have hfd3 := (hcs.s2 (.slice op2 pre.length oc2)).free 3
                clear hci3 hlo2 hcs hoc2 hlo3 HC2
                refine wp_region_stg [(17, fun w' => w'.cell? ⟨xb, 2, none⟩ = some (.slice op2 lo2 oc2)), (20, fun w' => w'.cell? ⟨xb, 3, none⟩ = some (.int .u32 (us2 : Int)))] (by kernel_rfl) ?_ (fun hHeld => ?_)
                · exact .keep hd2 (.keep hd3 .nil)
                refine wpStg_pure (i := 0) (v := .pointer (some ⟨xb, 0, none⟩)) rfl (by kernel_rfl) (by kernel_rfl) (by kernel_rfl) (by kernel_rfl) (fun _ _ _ h => h) (Or.inl ⟨by rfl, ?_⟩) (by assumption) ?_
                · intro wz _; go_simp; try rfl
                try simp only [Act.put, List.getElem_toArray, List.getElem_cons_succ, List.getElem_cons_zero, List.setIfInBounds_toArray, List.set_cons_zero, List.set_cons_succ]
                refine wpStg_pure (i := 1) (v := .pointer (some ⟨xb, 0, none⟩)) rfl (by kernel_rfl) (by kernel_rfl) (by kernel_rfl) (by kernel_rfl) (fun _ _ _ h => h) (Or.inl ⟨by rfl, ?_⟩) (by assumption) ?_
                · intro wz _; go_simp; try rfl
                try simp only [Act.put, List.getElem_toArray, List.getElem_cons_succ, List.getElem_cons_zero, List.setIfInBounds_toArray, List.set_cons_zero, List.set_cons_succ]
                refine wpStg_pure (i := 2) (v := .pointer (some ⟨xb, 0, none⟩)) rfl (by kernel_rfl) (by kernel_rfl) (by kernel_rfl) (by kernel_rfl) (fun _ _ _ h => h) (Or.inl ⟨by rfl, ?_⟩) (by assumption) ?_
                · intro wz _; go_simp; try rfl
                try simp only [Act.put, List.getElem_toArray, List.getElem_cons_succ, List.getElem_cons_zero, List.setIfInBounds_toArray, List.set_cons_zero, List.set_cons_succ]
                refine wpStg_pure (i := 3) (v := .pointer (some ⟨xb, 0, none⟩)) rfl (by kernel_rfl) (by kernel_rfl) (by kernel_rfl) (by kernel_rfl) (fun _ _ _ h => h) (Or.inl ⟨by rfl, ?_⟩) (by assumption) ?_
                · intro wz _; go_simp; try rfl
                try simp only [Act.put, List.getElem_toArray, List.getElem_cons_succ, List.getElem_cons_zero, List.setIfInBounds_toArray, List.set_cons_zero, List.set_cons_succ]
                refine wpStg_pure (i := 4) (v := .pointer (some ⟨xb, 2, none⟩)) rfl (by kernel_rfl) (by kernel_rfl) (by kernel_rfl) (by kernel_rfl) (fun _ _ _ h => h) (Or.inl ⟨by rfl, ?_⟩) (by assumption) ?_
                · intro wz _; go_simp; try rfl
                try simp only [Act.put, List.getElem_toArray, List.getElem_cons_succ, List.getElem_cons_zero, List.setIfInBounds_toArray, List.set_cons_zero, List.set_cons_succ]
                refine wpStg_take (m := 0) (i := 5) (v := .slice op2 lo2 oc2) rfl rfl (by kernel_rfl) (by kernel_rfl) (by kernel_rfl) (by kernel_rfl) (by kernel_rfl) (by kernel_rfl) (fun _ _ _ h => h) (Or.inl ⟨by rfl, ?_⟩) (by assumption) ?_
                · intro wz hSw; (try dsimp only at hSw); go_simp; try rfl
                try simp only [Act.put, List.getElem_toArray, List.getElem_cons_succ, List.getElem_cons_zero, List.setIfInBounds_toArray, List.set_cons_zero, List.set_cons_succ]
                refine wpStg_pure (i := 6) (v := .int .i64 (pre.length : Int)) rfl (by kernel_rfl) (by kernel_rfl) (by kernel_rfl) (by kernel_rfl) (fun _ _ _ h => h) (Or.inl ⟨by rfl, ?_⟩) (by assumption) ?_
                · intro wz _; go_simp; try rfl
                try simp only [Act.put, List.getElem_toArray, List.getElem_cons_succ, List.getElem_cons_zero, List.setIfInBounds_toArray, List.set_cons_zero, List.set_cons_succ]
                refine wpStg_pure (i := 7) (v := .slice op2 pre.length oc2) rfl (by kernel_rfl) (by kernel_rfl) (by kernel_rfl) (by kernel_rfl) (fun _ _ _ h => h) (Or.inl ⟨by rfl, ?_⟩) (by assumption) ?_
                · intro wz _; go_simp; try rfl
                try simp only [Act.put, List.getElem_toArray, List.getElem_cons_succ, List.getElem_cons_zero, List.setIfInBounds_toArray, List.set_cons_zero, List.set_cons_succ]
                refine wpStg_pure (i := 8) (v := .pointer (some ⟨xb, 0, none⟩)) rfl (by kernel_rfl) (by kernel_rfl) (by kernel_rfl) (by kernel_rfl) (fun _ _ _ h => h) (Or.inl ⟨by rfl, ?_⟩) (by assumption) ?_
                · intro wz _; go_simp; try rfl
                try simp only [Act.put, List.getElem_toArray, List.getElem_cons_succ, List.getElem_cons_zero, List.setIfInBounds_toArray, List.set_cons_zero, List.set_cons_succ]
                refine wpStg_pure (i := 9) (v := .pointer (some ⟨xb, 0, none⟩)) rfl (by kernel_rfl) (by kernel_rfl) (by kernel_rfl) (by kernel_rfl) (fun _ _ _ h => h) (Or.inl ⟨by rfl, ?_⟩) (by assumption) ?_
                · intro wz _; go_simp; try rfl
                try simp only [Act.put, List.getElem_toArray, List.getElem_cons_succ, List.getElem_cons_zero, List.setIfInBounds_toArray, List.set_cons_zero, List.set_cons_succ]
                refine wpStg_pure (i := 10) (v := .pointer (some ⟨xb, 3, none⟩)) rfl (by kernel_rfl) (by kernel_rfl) (by kernel_rfl) (by kernel_rfl) (fun _ _ _ h => h) (Or.inl ⟨by rfl, ?_⟩) (by assumption) ?_
                · intro wz _; go_simp; try rfl
                try simp only [Act.put, List.getElem_toArray, List.getElem_cons_succ, List.getElem_cons_zero, List.setIfInBounds_toArray, List.set_cons_zero, List.set_cons_succ]
                refine wpStg_take (m := 1) (i := 11) (v := .int .u32 (us2 : Int)) rfl rfl (by kernel_rfl) (by kernel_rfl) (by kernel_rfl) (by kernel_rfl) (by kernel_rfl) (by kernel_rfl) (fun _ _ _ h => h) (Or.inl ⟨by rfl, ?_⟩) (by assumption) ?_
                · intro wz hSw; (try dsimp only at hSw); go_simp; try rfl
                try simp only [Act.put, List.getElem_toArray, List.getElem_cons_succ, List.getElem_cons_zero, List.setIfInBounds_toArray, List.set_cons_zero, List.set_cons_succ]
                refine wpStg_pure (i := 12) (v := .int .i64 (v : Int)) rfl (by kernel_rfl) (by kernel_rfl) (by kernel_rfl) (by kernel_rfl) (fun _ _ _ h => h) (Or.inl ⟨by rfl, ?_⟩) (by assumption) ?_
                · intro wz _; go_simp; try rfl
                try simp only [Act.put, List.getElem_toArray, List.getElem_cons_succ, List.getElem_cons_zero, List.setIfInBounds_toArray, List.set_cons_zero, List.set_cons_succ]
                refine wpStg_one (i := 13) (by kernel_rfl) rfl (fun K hK => ?_)
                go_simp
                go_at_call 156
                refine (ONE.out _).mono ?_
                rintro e w9 ⟨rfl, rfl⟩
                refine hK.out _ _ ?_ (fun hHeld => ?_)
                · exact .keep hd2 (.keep hd3 .nil)
                clear hK K
                try simp only [Act.put, List.getElem_toArray, List.getElem_cons_succ, List.getElem_cons_zero, List.setIfInBounds_toArray, List.set_cons_zero, List.set_cons_succ]
                refine wpStg_pure (i := 14) (v := .int .u32 (us : Int)) rfl (by kernel_rfl) (by kernel_rfl) (by kernel_rfl) (by kernel_rfl) (fun _ _ _ h => h) (Or.inl ⟨by rfl, ?_⟩) (by assumption) ?_
                · intro wz _; go_simp; try rfl
                try simp only [Act.put, List.getElem_toArray, List.getElem_cons_succ, List.getElem_cons_zero, List.setIfInBounds_toArray, List.set_cons_zero, List.set_cons_succ]
                refine wpStg_pure (i := 15) (v := .pointer (some ⟨xb, 0, none⟩)) rfl (by kernel_rfl) (by kernel_rfl) (by kernel_rfl) (by kernel_rfl) (fun _ _ _ h => h) (Or.inl ⟨by rfl, ?_⟩) (by assumption) ?_
                · intro wz _; go_simp; try rfl
                try simp only [Act.put, List.getElem_toArray, List.getElem_cons_succ, List.getElem_cons_zero, List.setIfInBounds_toArray, List.set_cons_zero, List.set_cons_succ]
                refine wpStg_pure (i := 16) (v := .pointer (some ⟨xb, 2, none⟩)) rfl (by kernel_rfl) (by kernel_rfl) (by kernel_rfl) (by kernel_rfl) (fun _ _ _ h => h) (Or.inl ⟨by rfl, ?_⟩) (by assumption) ?_
                · intro wz _; go_simp; try rfl
                try simp only [Act.put, List.getElem_toArray, List.getElem_cons_succ, List.getElem_cons_zero, List.setIfInBounds_toArray, List.set_cons_zero, List.set_cons_succ]
                refine wpStg_one (i := 17) (by kernel_rfl) rfl (fun K hK => ?_)
                go_simp
                refine hK.out _ _ ?_ (fun hHeld => ?_)
                · exact .skip (by kernel_rfl) (.keep hd3z .nil)
                clear hK K
                try simp only [Act.put, List.getElem_toArray, List.getElem_cons_succ, List.getElem_cons_zero, List.setIfInBounds_toArray, List.set_cons_zero, List.set_cons_succ]
                refine wpStg_pure (i := 18) (v := .pointer (some ⟨xb, 0, none⟩)) rfl (by kernel_rfl) (by kernel_rfl) (by kernel_rfl) (by kernel_rfl) (fun _ _ _ h => h) (Or.inl ⟨by rfl, ?_⟩) (by assumption) ?_
                · intro wz _; go_simp; try rfl
                try simp only [Act.put, List.getElem_toArray, List.getElem_cons_succ, List.getElem_cons_zero, List.setIfInBounds_toArray, List.set_cons_zero, List.set_cons_succ]
                refine wpStg_pure (i := 19) (v := .pointer (some ⟨xb, 3, none⟩)) rfl (by kernel_rfl) (by kernel_rfl) (by kernel_rfl) (by kernel_rfl) (fun _ _ _ h => h) (Or.inl ⟨by rfl, ?_⟩) (by assumption) ?_
                · intro wz _; go_simp; try rfl
                try simp only [Act.put, List.getElem_toArray, List.getElem_cons_succ, List.getElem_cons_zero, List.setIfInBounds_toArray, List.set_cons_zero, List.set_cons_succ]
                refine wpStg_one (i := 20) (by kernel_rfl) rfl (fun K hK => ?_)
                go_simp
                refine hK.out _ _ ?_ (fun hHeld => ?_)
                · exact .skip (by kernel_rfl) (.skip (by kernel_rfl) .nil)
                clear hK K
                try simp only [Act.put, List.getElem_toArray, List.getElem_cons_succ, List.getElem_cons_zero, List.setIfInBounds_toArray, List.set_cons_zero, List.set_cons_succ]
                refine wpStg_done (by kernel_rfl) ?_ _
                go_wp2_with fail
                go_roundw
                case rel => exact ⟨v + 1, _, by omega, by go_num, by have := CUT.out; rw [TK.out] at this; rw [HFT.out, ← Nat.add_assoc]; exact this⟩
                case measure => simp [intOf]; omega
      · obtain rfl : v = n := by omega
        have HCI := Lib.hid hI
        clear hI
        go_wp2_with fail
        go_ret
        exact ⟨rfl, _, HCI.out⟩

end Go.Proofs.YtkppbmfliejnmaaDoor
