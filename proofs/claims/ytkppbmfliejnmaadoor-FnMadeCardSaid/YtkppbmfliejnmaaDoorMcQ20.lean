/- Walk: the program's search of the least code, recursive on the block of the search (printed in part by wip/mkCnG.py). -/
import Derived.Test.YtkppbmfliejnmaaDoorMcQ19
import Derived.Test.YtkppbmfliejnmaaDoorMcQ8
namespace Go.Proofs.YtkppbmfliejnmaaDoor
open Go.RowKit

set_option maxRecDepth 100000 in
set_option maxHeartbeats 1000000 in
theorem clone64_any (v : Value) (n : Nat) (vals : List Value) (h1 : ∀ x ∈ vals, x.oneCell' = true) (hl : vals.length = n) (w : World) (hx : Sl w 2 v n vals) :
    Calls Tryd.prog 202 #[v] w fun e w' => ∃ u, e = .returned u ∧ w'.ownsRow w.heap.size 2 1 u n vals ∧ Below w.heap.size w w' := by
  have hn := hx
  obtain ⟨p, c, rfl, hp, _, hn, _⟩ := hn
  cases p with
  | none =>
    obtain ⟨rfl, rfl⟩ := hp rfl
    obtain rfl : vals = [] := List.eq_nil_of_length_eq_zero hl
    have hnl : ∀ w, Sem.run Tryd.prog (binOp BinOp.eql 33 (.slice none 0 0) (.slice none 0 0)) w = .ok (.bool true) w := fun w => rfl
    go_enter Tryd.func202, Tryd.ntmps202
    go_wp2
    go_ret
    exact ⟨_, rfl, World.ownsRow_nil _ _ _ _, Below.refl _ _⟩
  | some ad =>
    have hx' := hx.below (below_alloc w (.cells #[] 2))
    have ho := ownsRow_empty w 2 1
    have hb := below_alloc w (.cells #[] 2)
    have hsz : w.heap.size ≤ (w.alloc (.cells #[] 2)).heap.size := hb.size
    have Hl := Lib.hid hl
    clear hl
    have hnl : ∀ w, Sem.run Tryd.prog (binOp BinOp.eql 33 (.slice (some ad) n c) (.slice none 0 0)) w = .ok (.bool false) w := fun w => rfl
    go_enter Tryd.func202, Tryd.ntmps202
    go_wp2_with (at_builtin; refine wpList_app ty_i64 rfl rfl rfl ho rfl hx' (by have := Hl.out; omega) h1 (by omega) hsz ?_; intro v' w1 hown' hg _)
    go_ret
    exact ⟨_, rfl, by simpa using hown', below_grown hb ho hg (Nat.le_refl _) hsz⟩
set_option maxRecDepth 100000 in
set_option maxHeartbeats 1000000 in
theorem cloneInt_any (v : Value) (n : Nat) (vals : List Value) (h1 : ∀ x ∈ vals, x.oneCell' = true) (hl : vals.length = n) (w : World) (hx : Sl w 3 v n vals) :
    Calls Tryd.prog 196 #[v] w fun e w' => ∃ u, e = .returned u ∧ w'.ownsRow w.heap.size 3 1 u n vals ∧ Below w.heap.size w w' := by
  have hn := hx
  obtain ⟨p, c, rfl, hp, _, hn, _⟩ := hn
  cases p with
  | none =>
    obtain ⟨rfl, rfl⟩ := hp rfl
    obtain rfl : vals = [] := List.eq_nil_of_length_eq_zero hl
    have hnl : ∀ w, Sem.run Tryd.prog (binOp BinOp.eql 93 (.slice none 0 0) (.slice none 0 0)) w = .ok (.bool true) w := fun w => rfl
    go_enter Tryd.func196, Tryd.ntmps196
    go_wp2
    go_ret
    exact ⟨_, rfl, World.ownsRow_nil _ _ _ _, Below.refl _ _⟩
  | some ad =>
    have hx' := hx.below (below_alloc w (.cells #[] 3))
    have ho := ownsRow_empty w 3 1
    have hb := below_alloc w (.cells #[] 3)
    have hsz : w.heap.size ≤ (w.alloc (.cells #[] 3)).heap.size := hb.size
    have Hl := Lib.hid hl
    clear hl
    have hnl : ∀ w, Sem.run Tryd.prog (binOp BinOp.eql 93 (.slice (some ad) n c) (.slice none 0 0)) w = .ok (.bool false) w := fun w => rfl
    go_enter Tryd.func196, Tryd.ntmps196
    go_wp2_with (at_builtin; refine wpList_app ty_int rfl rfl rfl ho rfl hx' (by have := Hl.out; omega) h1 (by omega) hsz ?_; intro v' w1 hown' hg _)
    go_ret
    exact ⟨_, rfl, by simpa using hown', below_grown hb ho hg (Nat.le_refl _) hsz⟩

theorem cmpL_gtz {a b : List Nat} : decide ((0 : Int) < cmpL a b) = dec (lexL b a) := by
  by_cases h : lexL b a
  · rw [cmpL_pos64 h, dec_true h]; rfl
  · rw [dec_false h]
    by_cases k : lexL a b
    · rw [cmpL_neg64 k]; rfl
    · rw [cmpL_zero64 (lexL_tri _ _ k h)]; rfl
theorem cmpL_ltz {a b : List Nat} : decide (cmpL a b < (0 : Int)) = dec (lexL a b) := by
  by_cases h : lexL a b
  · rw [cmpL_neg64 h, dec_true h]; rfl
  · rw [dec_false h]
    by_cases k : lexL b a
    · rw [cmpL_pos64 k]; rfl
    · rw [cmpL_zero64 (lexL_tri _ _ h k)]; rfl

set_option maxRecDepth 100000 in
set_option maxHeartbeats 8000000 in
theorem grow_any (w1 : World) (xb : Nat) (ap : Option Addr) (ac : Nat) (a : List Nat) (ha : ∀ s ∈ a, s < 65536) (h8 : a.length ≤ 8) (E : Nat → Nat → Bool) (hE : ∀ u v, u < a.length → v < a.length → E u v = (a.getD v 0).testBit u)
    (hN : Sl w1 70 (.slice ap a.length ac) a.length (a.map u32v)) : ∀ (m : Nat) (o code : List Nat) (b : Option PrC) (us : Nat) (ov cv bv fv : Value) (w : World), us = mask (natInts o) → OrdK a.length o.length (o, code) → o.length + m = a.length → code.length = codeL o.length →
      (∀ q, b = some q → BQ a.length q) → (∀ q, b = some q → q.2 ≠ []) → CI w1 xb (.slice ap a.length ac) w o us code b ov cv bv fv →
      Calls Tryd.prog 130 #[.pointer (some ⟨xb, 0, none⟩)] w fun e w' => e = .returned (.tuple #[]) ∧
        ∃ ov' cv' bv' fv', CI w1 xb (.slice ap a.length ac) w' o us code ((compP a.length E m (o, code)).foldl better b) ov' cv' bv' fv' := by
  intro m
  have HN := Lib.hid hN
  have HA := Lib.hid ha
  have HE := Lib.hid hE
  clear hN ha hE
  induction m using Nat.strongRecOn with
  | ind m ih =>
  intro o code b us ov cv bv fv w hus hord hlen hcl hbq hbne hci
  obtain ⟨op, oc, rfl, hoc⟩ := owns_capL hci.ord
  obtain ⟨cp, cc, rfl, hcc⟩ := owns_capL hci.cod
  have hcl28 : code.length ≤ 28 := by rw [hcl]; exact codeL_8 (by omega)
  have IH := Lib.hid ih
  have HUS := Lib.hid hus
  have HORD := Lib.hid hord
  have HCL := Lib.hid hcl
  have HBQ := Lib.hid hbq
  have HBNE := Lib.hid hbne
  have HCI := Lib.hid hci
  have hus16 : us < 65536 := by rw [hus]; exact mask_nat16 fun u hu => by have := hord.lt u hu; omega
  obtain ⟨PR, hPR⟩ : ∃ PR : Prop, PR = (∃ q, b = some q ∧ lexL (q.2.take code.length) code) := ⟨_, rfl⟩
  have HPR := Lib.hid hPR
  have hc3 := hci.cs.c3
  have hc4 := hci.cs.c4
  have HNC := Lib.hid (Nums.of_owns hci.cod (natInts_length code).symm (by omega))
  clear ih hus hord hcl hbq hbne hci hPR
  go_enter Tryd.func130, Tryd.ntmps130
  go_upto_region 0 with fail
  go_cut [29] (fun s29 wx => s29 = .bool (dec PR) ∧ Below w.heap.size w wx)
  case first =>
    cases b with
    | none =>
      have hbv : bv = .slice none 0 0 := HCI.out.bst
      subst hbv
      have hd : dec PR = false := dec_false (by rw [HPR.out]; rintro ⟨q, hq, _⟩; cases hq)
      have HD0 := Lib.hid hd
      clear hd
      refine wp_region_held_drew (S := fun w' => w'.cell? ⟨xb, 3, none⟩ = some (.slice cp code.length cc) ∧ w'.cell? ⟨xb, 4, none⟩ = some (.slice none 0 0)) (by kernel_rfl) ?_ (fun hHeld => ?_)
      · exact ⟨hc3, hc4⟩
      refine wpAnyH_take (i := 0) (v := .pointer (some ⟨xb, 0, none⟩)) rfl (by kernel_rfl) (by kernel_rfl) (by kernel_rfl) (fun _ _ _ h => h) (Or.inl ⟨by rfl, ?_⟩) (by assumption) ?_
      · intro wz hSw; (try dsimp only at hSw); go_simp; try rfl
      try simp only [Act.put, List.getElem_toArray, List.getElem_cons_succ, List.getElem_cons_zero, List.setIfInBounds_toArray, List.set_cons_zero, List.set_cons_succ]
      refine wpAnyH_take (i := 1) (v := .pointer (some ⟨xb, 0, none⟩)) rfl (by kernel_rfl) (by kernel_rfl) (by kernel_rfl) (fun _ _ _ h => h) (Or.inl ⟨by rfl, ?_⟩) (by assumption) ?_
      · intro wz hSw; (try dsimp only at hSw); go_simp; try rfl
      try simp only [Act.put, List.getElem_toArray, List.getElem_cons_succ, List.getElem_cons_zero, List.setIfInBounds_toArray, List.set_cons_zero, List.set_cons_succ]
      refine wpAnyH_take (i := 2) (v := .pointer (some ⟨xb, 4, none⟩)) rfl (by kernel_rfl) (by kernel_rfl) (by kernel_rfl) (fun _ _ _ h => h) (Or.inl ⟨by rfl, ?_⟩) (by assumption) ?_
      · intro wz hSw; (try dsimp only at hSw); go_simp; try rfl
      try simp only [Act.put, List.getElem_toArray, List.getElem_cons_succ, List.getElem_cons_zero, List.setIfInBounds_toArray, List.set_cons_zero, List.set_cons_succ]
      refine wpAnyH_take (i := 3) (v := .slice none 0 0) rfl (by kernel_rfl) (by kernel_rfl) (by kernel_rfl) (fun _ _ _ h => h) (Or.inl ⟨by rfl, ?_⟩) (by assumption) ?_
      · intro wz hSw; (try dsimp only at hSw); go_simp; try rfl
      try simp only [Act.put, List.getElem_toArray, List.getElem_cons_succ, List.getElem_cons_zero, List.setIfInBounds_toArray, List.set_cons_zero, List.set_cons_succ]
      refine wpAnyH_take (i := 4) (v := .bool false) rfl (by kernel_rfl) (by kernel_rfl) (by kernel_rfl) (fun _ _ _ h => h) (Or.inl ⟨by rfl, ?_⟩) (by assumption) ?_
      · intro wz hSw; (try dsimp only at hSw); go_simp; try rfl
      try simp only [Act.put, List.getElem_toArray, List.getElem_cons_succ, List.getElem_cons_zero, List.setIfInBounds_toArray, List.set_cons_zero, List.set_cons_succ]
      refine wpAnyH_take (i := 5) (v := .bool false) rfl (by kernel_rfl) (by kernel_rfl) (by kernel_rfl) (fun _ _ _ h => h) (Or.inl ⟨by rfl, ?_⟩) (by assumption) ?_
      · intro wz hSw; (try dsimp only at hSw); go_simp; try rfl
      try simp only [Act.put, List.getElem_toArray, List.getElem_cons_succ, List.getElem_cons_zero, List.setIfInBounds_toArray, List.set_cons_zero, List.set_cons_succ]
      refine wpAnyH_take (i := 6) (v := undef) rfl (by kernel_rfl) (by kernel_rfl) (by kernel_rfl) (fun _ _ _ h => h) (Or.inr ⟨by kernel_rfl, rfl⟩) (by assumption) ?_
      try simp only [Act.put, List.getElem_toArray, List.getElem_cons_succ, List.getElem_cons_zero, List.setIfInBounds_toArray, List.set_cons_zero, List.set_cons_succ]
      refine wpAnyH_take (i := 7) (v := undef) rfl (by kernel_rfl) (by kernel_rfl) (by kernel_rfl) (fun _ _ _ h => h) (Or.inr ⟨by kernel_rfl, rfl⟩) (by assumption) ?_
      try simp only [Act.put, List.getElem_toArray, List.getElem_cons_succ, List.getElem_cons_zero, List.setIfInBounds_toArray, List.set_cons_zero, List.set_cons_succ]
      refine wpAnyH_take (i := 8) (v := undef) rfl (by kernel_rfl) (by kernel_rfl) (by kernel_rfl) (fun _ _ _ h => h) (Or.inr ⟨by kernel_rfl, rfl⟩) (by assumption) ?_
      try simp only [Act.put, List.getElem_toArray, List.getElem_cons_succ, List.getElem_cons_zero, List.setIfInBounds_toArray, List.set_cons_zero, List.set_cons_succ]
      refine wpAnyH_take (i := 9) (v := undef) rfl (by kernel_rfl) (by kernel_rfl) (by kernel_rfl) (fun _ _ _ h => h) (Or.inr ⟨by kernel_rfl, rfl⟩) (by assumption) ?_
      try simp only [Act.put, List.getElem_toArray, List.getElem_cons_succ, List.getElem_cons_zero, List.setIfInBounds_toArray, List.set_cons_zero, List.set_cons_succ]
      refine wpAnyH_take (i := 10) (v := undef) rfl (by kernel_rfl) (by kernel_rfl) (by kernel_rfl) (fun _ _ _ h => h) (Or.inr ⟨by kernel_rfl, rfl⟩) (by assumption) ?_
      try simp only [Act.put, List.getElem_toArray, List.getElem_cons_succ, List.getElem_cons_zero, List.setIfInBounds_toArray, List.set_cons_zero, List.set_cons_succ]
      refine wpAnyH_take (i := 11) (v := undef) rfl (by kernel_rfl) (by kernel_rfl) (by kernel_rfl) (fun _ _ _ h => h) (Or.inr ⟨by kernel_rfl, rfl⟩) (by assumption) ?_
      try simp only [Act.put, List.getElem_toArray, List.getElem_cons_succ, List.getElem_cons_zero, List.setIfInBounds_toArray, List.set_cons_zero, List.set_cons_succ]
      refine wpAnyH_take (i := 12) (v := undef) rfl (by kernel_rfl) (by kernel_rfl) (by kernel_rfl) (fun _ _ _ h => h) (Or.inr ⟨by kernel_rfl, rfl⟩) (by assumption) ?_
      try simp only [Act.put, List.getElem_toArray, List.getElem_cons_succ, List.getElem_cons_zero, List.setIfInBounds_toArray, List.set_cons_zero, List.set_cons_succ]
      refine wpAnyH_take (i := 13) (v := undef) rfl (by kernel_rfl) (by kernel_rfl) (by kernel_rfl) (fun _ _ _ h => h) (Or.inr ⟨by kernel_rfl, rfl⟩) (by assumption) ?_
      try simp only [Act.put, List.getElem_toArray, List.getElem_cons_succ, List.getElem_cons_zero, List.setIfInBounds_toArray, List.set_cons_zero, List.set_cons_succ]
      refine wpAnyH_take (i := 14) (v := undef) rfl (by kernel_rfl) (by kernel_rfl) (by kernel_rfl) (fun _ _ _ h => h) (Or.inr ⟨by kernel_rfl, rfl⟩) (by assumption) ?_
      try simp only [Act.put, List.getElem_toArray, List.getElem_cons_succ, List.getElem_cons_zero, List.setIfInBounds_toArray, List.set_cons_zero, List.set_cons_succ]
      refine wpAnyH_take (i := 15) (v := undef) rfl (by kernel_rfl) (by kernel_rfl) (by kernel_rfl) (fun _ _ _ h => h) (Or.inr ⟨by kernel_rfl, rfl⟩) (by assumption) ?_
      try simp only [Act.put, List.getElem_toArray, List.getElem_cons_succ, List.getElem_cons_zero, List.setIfInBounds_toArray, List.set_cons_zero, List.set_cons_succ]
      refine wpAnyH_take (i := 16) (v := undef) rfl (by kernel_rfl) (by kernel_rfl) (by kernel_rfl) (fun _ _ _ h => h) (Or.inr ⟨by kernel_rfl, rfl⟩) (by assumption) ?_
      try simp only [Act.put, List.getElem_toArray, List.getElem_cons_succ, List.getElem_cons_zero, List.setIfInBounds_toArray, List.set_cons_zero, List.set_cons_succ]
      refine wpAnyH_take (i := 17) (v := undef) rfl (by kernel_rfl) (by kernel_rfl) (by kernel_rfl) (fun _ _ _ h => h) (Or.inr ⟨by kernel_rfl, rfl⟩) (by assumption) ?_
      try simp only [Act.put, List.getElem_toArray, List.getElem_cons_succ, List.getElem_cons_zero, List.setIfInBounds_toArray, List.set_cons_zero, List.set_cons_succ]
      refine wpAnyH_take (i := 18) (v := undef) rfl (by kernel_rfl) (by kernel_rfl) (by kernel_rfl) (fun _ _ _ h => h) (Or.inr ⟨by kernel_rfl, rfl⟩) (by assumption) ?_
      try simp only [Act.put, List.getElem_toArray, List.getElem_cons_succ, List.getElem_cons_zero, List.setIfInBounds_toArray, List.set_cons_zero, List.set_cons_succ]
      refine wpAnyH_take (i := 19) (v := undef) rfl (by kernel_rfl) (by kernel_rfl) (by kernel_rfl) (fun _ _ _ h => h) (Or.inr ⟨by kernel_rfl, rfl⟩) (by assumption) ?_
      try simp only [Act.put, List.getElem_toArray, List.getElem_cons_succ, List.getElem_cons_zero, List.setIfInBounds_toArray, List.set_cons_zero, List.set_cons_succ]
      refine wpAnyH_take (i := 20) (v := undef) rfl (by kernel_rfl) (by kernel_rfl) (by kernel_rfl) (fun _ _ _ h => h) (Or.inr ⟨by kernel_rfl, rfl⟩) (by assumption) ?_
      try simp only [Act.put, List.getElem_toArray, List.getElem_cons_succ, List.getElem_cons_zero, List.setIfInBounds_toArray, List.set_cons_zero, List.set_cons_succ]
      refine wpAnyH_take (i := 21) (v := undef) rfl (by kernel_rfl) (by kernel_rfl) (by kernel_rfl) (fun _ _ _ h => h) (Or.inr ⟨by kernel_rfl, rfl⟩) (by assumption) ?_
      try simp only [Act.put, List.getElem_toArray, List.getElem_cons_succ, List.getElem_cons_zero, List.setIfInBounds_toArray, List.set_cons_zero, List.set_cons_succ]
      refine wpAnyH_take (i := 22) (v := .bool false) rfl (by kernel_rfl) (by kernel_rfl) (by kernel_rfl) (fun _ _ _ h => h) (Or.inl ⟨by rfl, ?_⟩) (by assumption) ?_
      · intro wz hSw; (try dsimp only at hSw); go_simp; try rfl
      try simp only [Act.put, List.getElem_toArray, List.getElem_cons_succ, List.getElem_cons_zero, List.setIfInBounds_toArray, List.set_cons_zero, List.set_cons_succ]
      refine wpAnyH_done (by kernel_rfl) ?_ _
      go_wp2
      go_meet
      exact ⟨by rw [HD0.out], below_dN (Below.refl _ _) 1⟩
    | some q =>
      obtain ⟨h1, _⟩ := HCI.out.bst
      have hq := HBQ.out q rfl
      obtain ⟨bg, bc, rfl, hbc⟩ := owns_some h1 (List.length_pos_iff.2 (HBNE.out q rfl))
      have hle : code.length ≤ q.2.length := by rw [HCL.out, hq.2]; exact codeL_le (by omega)
      have HNB : Hid (Nums w 2 .i64 (.slice (some ⟨bg, 0, none⟩) code.length bc) (natInts (q.2.take code.length))) := Lib.hid (by
        have := ownsRow_cut h1 hle
        rw [← List.map_take] at this
        rw [natInts, List.map_take]
        exact Nums.of_owns this (by simp [natInts]; omega) (by omega))
      have hcb : (code.length : Int) ≤ (bc : Int) := by omega
      obtain ⟨z, hz⟩ : ∃ z, cmpL code (q.2.take code.length) = z := ⟨_, rfl⟩
      have HD : Hid (decide ((0 : Int) < z) = dec PR) := Lib.hid (by
        rw [← hz, cmpL_gtz, HPR.out]
        exact dec_congr ⟨fun h => ⟨q, rfl, h⟩, fun ⟨_, e, h⟩ => by cases e; exact h⟩)
      have HZ := Lib.hid hz
      clear h1 hq hz hle
      refine wp_region_held_drew (S := fun w' => w'.cell? ⟨xb, 3, none⟩ = some (.slice cp code.length cc) ∧ w'.cell? ⟨xb, 4, none⟩ = some (.slice (some ⟨bg, 0, none⟩) q.2.length bc)) (by kernel_rfl) ?_ (fun hHeld => ?_)
      · exact ⟨hc3, hc4⟩
      refine wpAnyH_take (i := 0) (v := .pointer (some ⟨xb, 0, none⟩)) rfl (by kernel_rfl) (by kernel_rfl) (by kernel_rfl) (fun _ _ _ h => h) (Or.inl ⟨by rfl, ?_⟩) (by assumption) ?_
      · intro wz hSw; (try dsimp only at hSw); go_simp; try rfl
      try simp only [Act.put, List.getElem_toArray, List.getElem_cons_succ, List.getElem_cons_zero, List.setIfInBounds_toArray, List.set_cons_zero, List.set_cons_succ]
      refine wpAnyH_take (i := 1) (v := .pointer (some ⟨xb, 0, none⟩)) rfl (by kernel_rfl) (by kernel_rfl) (by kernel_rfl) (fun _ _ _ h => h) (Or.inl ⟨by rfl, ?_⟩) (by assumption) ?_
      · intro wz hSw; (try dsimp only at hSw); go_simp; try rfl
      try simp only [Act.put, List.getElem_toArray, List.getElem_cons_succ, List.getElem_cons_zero, List.setIfInBounds_toArray, List.set_cons_zero, List.set_cons_succ]
      refine wpAnyH_take (i := 2) (v := .pointer (some ⟨xb, 4, none⟩)) rfl (by kernel_rfl) (by kernel_rfl) (by kernel_rfl) (fun _ _ _ h => h) (Or.inl ⟨by rfl, ?_⟩) (by assumption) ?_
      · intro wz hSw; (try dsimp only at hSw); go_simp; try rfl
      try simp only [Act.put, List.getElem_toArray, List.getElem_cons_succ, List.getElem_cons_zero, List.setIfInBounds_toArray, List.set_cons_zero, List.set_cons_succ]
      refine wpAnyH_take (i := 3) (v := .slice (some ⟨bg, 0, none⟩) q.2.length bc) rfl (by kernel_rfl) (by kernel_rfl) (by kernel_rfl) (fun _ _ _ h => h) (Or.inl ⟨by rfl, ?_⟩) (by assumption) ?_
      · intro wz hSw; (try dsimp only at hSw); go_simp; try rfl
      try simp only [Act.put, List.getElem_toArray, List.getElem_cons_succ, List.getElem_cons_zero, List.setIfInBounds_toArray, List.set_cons_zero, List.set_cons_succ]
      refine wpAnyH_take (i := 4) (v := .bool true) rfl (by kernel_rfl) (by kernel_rfl) (by kernel_rfl) (fun _ _ _ h => h) (Or.inl ⟨by rfl, ?_⟩) (by assumption) ?_
      · intro wz hSw; (try dsimp only at hSw); go_simp; try rfl
      try simp only [Act.put, List.getElem_toArray, List.getElem_cons_succ, List.getElem_cons_zero, List.setIfInBounds_toArray, List.set_cons_zero, List.set_cons_succ]
      refine wpAnyH_take (i := 5) (v := .bool true) rfl (by kernel_rfl) (by kernel_rfl) (by kernel_rfl) (fun _ _ _ h => h) (Or.inl ⟨by rfl, ?_⟩) (by assumption) ?_
      · intro wz hSw; (try dsimp only at hSw); go_simp; try rfl
      try simp only [Act.put, List.getElem_toArray, List.getElem_cons_succ, List.getElem_cons_zero, List.setIfInBounds_toArray, List.set_cons_zero, List.set_cons_succ]
      refine wpAnyH_take (i := 6) (v := .pointer (some ⟨xb, 0, none⟩)) rfl (by kernel_rfl) (by kernel_rfl) (by kernel_rfl) (fun _ _ _ h => h) (Or.inl ⟨by rfl, ?_⟩) (by assumption) ?_
      · intro wz hSw; (try dsimp only at hSw); go_simp; try rfl
      try simp only [Act.put, List.getElem_toArray, List.getElem_cons_succ, List.getElem_cons_zero, List.setIfInBounds_toArray, List.set_cons_zero, List.set_cons_succ]
      refine wpAnyH_take (i := 7) (v := .pointer (some ⟨xb, 0, none⟩)) rfl (by kernel_rfl) (by kernel_rfl) (by kernel_rfl) (fun _ _ _ h => h) (Or.inl ⟨by rfl, ?_⟩) (by assumption) ?_
      · intro wz hSw; (try dsimp only at hSw); go_simp; try rfl
      try simp only [Act.put, List.getElem_toArray, List.getElem_cons_succ, List.getElem_cons_zero, List.setIfInBounds_toArray, List.set_cons_zero, List.set_cons_succ]
      refine wpAnyH_take (i := 8) (v := .pointer (some ⟨xb, 3, none⟩)) rfl (by kernel_rfl) (by kernel_rfl) (by kernel_rfl) (fun _ _ _ h => h) (Or.inl ⟨by rfl, ?_⟩) (by assumption) ?_
      · intro wz hSw; (try dsimp only at hSw); go_simp; try rfl
      try simp only [Act.put, List.getElem_toArray, List.getElem_cons_succ, List.getElem_cons_zero, List.setIfInBounds_toArray, List.set_cons_zero, List.set_cons_succ]
      refine wpAnyH_take (i := 9) (v := .slice cp code.length cc) rfl (by kernel_rfl) (by kernel_rfl) (by kernel_rfl) (fun _ _ _ h => h) (Or.inl ⟨by rfl, ?_⟩) (by assumption) ?_
      · intro wz hSw; (try dsimp only at hSw); go_simp; try rfl
      try simp only [Act.put, List.getElem_toArray, List.getElem_cons_succ, List.getElem_cons_zero, List.setIfInBounds_toArray, List.set_cons_zero, List.set_cons_succ]
      refine wpAnyH_take (i := 10) (v := .pointer (some ⟨xb, 0, none⟩)) rfl (by kernel_rfl) (by kernel_rfl) (by kernel_rfl) (fun _ _ _ h => h) (Or.inl ⟨by rfl, ?_⟩) (by assumption) ?_
      · intro wz hSw; (try dsimp only at hSw); go_simp; try rfl
      try simp only [Act.put, List.getElem_toArray, List.getElem_cons_succ, List.getElem_cons_zero, List.setIfInBounds_toArray, List.set_cons_zero, List.set_cons_succ]
      refine wpAnyH_take (i := 11) (v := .pointer (some ⟨xb, 0, none⟩)) rfl (by kernel_rfl) (by kernel_rfl) (by kernel_rfl) (fun _ _ _ h => h) (Or.inl ⟨by rfl, ?_⟩) (by assumption) ?_
      · intro wz hSw; (try dsimp only at hSw); go_simp; try rfl
      try simp only [Act.put, List.getElem_toArray, List.getElem_cons_succ, List.getElem_cons_zero, List.setIfInBounds_toArray, List.set_cons_zero, List.set_cons_succ]
      refine wpAnyH_take (i := 12) (v := .pointer (some ⟨xb, 4, none⟩)) rfl (by kernel_rfl) (by kernel_rfl) (by kernel_rfl) (fun _ _ _ h => h) (Or.inl ⟨by rfl, ?_⟩) (by assumption) ?_
      · intro wz hSw; (try dsimp only at hSw); go_simp; try rfl
      try simp only [Act.put, List.getElem_toArray, List.getElem_cons_succ, List.getElem_cons_zero, List.setIfInBounds_toArray, List.set_cons_zero, List.set_cons_succ]
      refine wpAnyH_take (i := 13) (v := .slice (some ⟨bg, 0, none⟩) q.2.length bc) rfl (by kernel_rfl) (by kernel_rfl) (by kernel_rfl) (fun _ _ _ h => h) (Or.inl ⟨by rfl, ?_⟩) (by assumption) ?_
      · intro wz hSw; (try dsimp only at hSw); go_simp; try rfl
      try simp only [Act.put, List.getElem_toArray, List.getElem_cons_succ, List.getElem_cons_zero, List.setIfInBounds_toArray, List.set_cons_zero, List.set_cons_succ]
      refine wpAnyH_take (i := 14) (v := .pointer (some ⟨xb, 0, none⟩)) rfl (by kernel_rfl) (by kernel_rfl) (by kernel_rfl) (fun _ _ _ h => h) (Or.inl ⟨by rfl, ?_⟩) (by assumption) ?_
      · intro wz hSw; (try dsimp only at hSw); go_simp; try rfl
      try simp only [Act.put, List.getElem_toArray, List.getElem_cons_succ, List.getElem_cons_zero, List.setIfInBounds_toArray, List.set_cons_zero, List.set_cons_succ]
      refine wpAnyH_take (i := 15) (v := .pointer (some ⟨xb, 0, none⟩)) rfl (by kernel_rfl) (by kernel_rfl) (by kernel_rfl) (fun _ _ _ h => h) (Or.inl ⟨by rfl, ?_⟩) (by assumption) ?_
      · intro wz hSw; (try dsimp only at hSw); go_simp; try rfl
      try simp only [Act.put, List.getElem_toArray, List.getElem_cons_succ, List.getElem_cons_zero, List.setIfInBounds_toArray, List.set_cons_zero, List.set_cons_succ]
      refine wpAnyH_take (i := 16) (v := .pointer (some ⟨xb, 3, none⟩)) rfl (by kernel_rfl) (by kernel_rfl) (by kernel_rfl) (fun _ _ _ h => h) (Or.inl ⟨by rfl, ?_⟩) (by assumption) ?_
      · intro wz hSw; (try dsimp only at hSw); go_simp; try rfl
      try simp only [Act.put, List.getElem_toArray, List.getElem_cons_succ, List.getElem_cons_zero, List.setIfInBounds_toArray, List.set_cons_zero, List.set_cons_succ]
      refine wpAnyH_take (i := 17) (v := .slice cp code.length cc) rfl (by kernel_rfl) (by kernel_rfl) (by kernel_rfl) (fun _ _ _ h => h) (Or.inl ⟨by rfl, ?_⟩) (by assumption) ?_
      · intro wz hSw; (try dsimp only at hSw); go_simp; try rfl
      try simp only [Act.put, List.getElem_toArray, List.getElem_cons_succ, List.getElem_cons_zero, List.setIfInBounds_toArray, List.set_cons_zero, List.set_cons_succ]
      refine wpAnyH_take (i := 18) (v := .int .i64 code.length) rfl (by kernel_rfl) (by kernel_rfl) (by kernel_rfl) (fun _ _ _ h => h) (Or.inl ⟨by rfl, ?_⟩) (by assumption) ?_
      · intro wz hSw; (try dsimp only at hSw); go_simp; try rfl
      try simp only [Act.put, List.getElem_toArray, List.getElem_cons_succ, List.getElem_cons_zero, List.setIfInBounds_toArray, List.set_cons_zero, List.set_cons_succ]
      refine wpAnyH_take (i := 19) (v := .slice (some ⟨bg, 0, none⟩) code.length bc) rfl (by kernel_rfl) (by kernel_rfl) (by kernel_rfl) (fun _ _ _ h => h) (Or.inl ⟨by rfl, ?_⟩) (by assumption) ?_
      · intro wz hSw; (try dsimp only at hSw); go_simp; try rfl
      try simp only [Act.put, List.getElem_toArray, List.getElem_cons_succ, List.getElem_cons_zero, List.setIfInBounds_toArray, List.set_cons_zero, List.set_cons_succ]
      refine wpAnyH_ready (rs := [20]) (by kernel_rfl) (by simp) ?_
      refine AllReadyH.cons rfl (fun K hK => ?_) AllReadyH.nil
      go_simp
      go_at_call 201
      refine (slCompare64_any _ _ code (q.2.take code.length) _ (HNC.out.below (below_dN (Below.refl _ _) 1)) (HNB.out.below (below_dN (Below.refl _ _) 1))).mono ?_
      rintro e w4 ⟨he4, q4, hw4⟩
      rw [HZ.out] at he4
      subst he4
      subst hw4
      refine hK.out _ _ ?_ (fun hHeld => ?_)
      · exact ⟨hc3, hc4⟩
      clear hK K
      try simp only [Act.put, List.getElem_toArray, List.getElem_cons_succ, List.getElem_cons_zero, List.setIfInBounds_toArray, List.set_cons_zero, List.set_cons_succ]
      refine wpAnyH_take (i := 21) (v := .bool (decide ((0 : Int) < z))) rfl (by kernel_rfl) (by kernel_rfl) (by kernel_rfl) (fun _ _ _ h => h) (Or.inl ⟨by rfl, ?_⟩) (by assumption) ?_
      · intro wz hSw; (try dsimp only at hSw); go_simp; try rfl
      try simp only [Act.put, List.getElem_toArray, List.getElem_cons_succ, List.getElem_cons_zero, List.setIfInBounds_toArray, List.set_cons_zero, List.set_cons_succ]
      refine wpAnyH_take (i := 22) (v := .bool (decide ((0 : Int) < z))) rfl (by kernel_rfl) (by kernel_rfl) (by kernel_rfl) (fun _ _ _ h => h) (Or.inl ⟨by rfl, ?_⟩) (by assumption) ?_
      · intro wz hSw; (try dsimp only at hSw); go_simp; try rfl
      try simp only [Act.put, List.getElem_toArray, List.getElem_cons_succ, List.getElem_cons_zero, List.setIfInBounds_toArray, List.set_cons_zero, List.set_cons_succ]
      refine wpAnyH_done (by kernel_rfl) ?_ _
      go_wp2
      go_meet
      first | exact ⟨by rw [HD.out], below_dN (Below.refl _ _) _⟩ | exact ⟨by rw [HD.out], below_dN (below_dN (Below.refl _ _) 1) _⟩
  case rest =>
  obtain ⟨rfl, hb1⟩ := hcut
  replace HCI := Lib.hid (HCI.out.next hb1)
  replace HNC := Lib.hid (HNC.out.below hb1)
  clear hc3 hc4 hb1
  by_cases hpr : PR
  · rw [dec_true hpr]
    have HR : Hid ((compP a.length E m (o, code)).foldl better b = b) := Lib.hid (by
      rw [HPR.out] at hpr
      obtain ⟨q, rfl, hq⟩ := hpr
      refine comp_cut ?_ hq
      show code.length ≤ q.2.length
      rw [HCL.out, (HBQ.out q rfl).2]
      exact codeL_le (by omega))
    clear hpr
    go_wp2_with fail
    try simp only [Exit.inBlock, Exit.then]
    refine bodyPost_ret (results_none rfl _ _ _) rfl ?_
    exact ⟨rfl, _, _, _, _, by rw [HR.out]; exact HCI.out⟩
  rw [dec_false hpr]
  clear hpr HPR
  have hc0 := HCI.out.cs.c0
  have hc1 := HCI.out.cs.c1
  go_upto_region 1 with fail
  go_cut [40] (fun s40 wx => ∃ z, s40 = .bool z ∧ (z = true ↔ m = 0) ∧ Below wc.heap.size wc wx)
  case first =>
    go_region_held3 (fun w' => w'.cell? ⟨xb, 1, none⟩ = some (.slice op o.length oc) ∧ w'.cell? ⟨xb, 0, none⟩ = some (.slice ap a.length ac))
      (first | exact ⟨hc1, hc0⟩ | go_keep)
      (first | fail)
    all_goals go_wp2
    all_goals go_meet
    all_goals exact ⟨_, rfl, by simp; omega, below_dN (Below.refl _ _) 1⟩
  case rest =>
  obtain ⟨z, rfl, hz, hb1⟩ := hcut
  replace HCI := Lib.hid (HCI.out.next hb1)
  replace HNC := Lib.hid (HNC.out.below hb1)
  clear hc0 hc1 hb1
  by_cases hm : m = 0
  · obtain rfl : z = true := hz.2 hm
    subst hm
    have hc3 := HCI.out.cs.c3
    have hc4 := HCI.out.cs.c4
    go_upto_region 2 with fail
    go_cut [57] (fun s57 wx => s57 = .bool (dec (b = none ∨ ∃ q, b = some q ∧ lexL code q.2)) ∧ Below wc.heap.size wc wx)
    case first =>
      cases b with
      | none =>
        have hbv : bv = .slice none 0 0 := HCI.out.bst
        subst hbv
        refine wp_region_held_drew (S := fun w' => w'.cell? ⟨xb, 3, none⟩ = some (.slice cp code.length cc) ∧ w'.cell? ⟨xb, 4, none⟩ = some (.slice none 0 0)) (by kernel_rfl) ?_ (fun hHeld => ?_)
        · exact ⟨hc3, hc4⟩
        refine wpAnyH_take (i := 0) (v := .pointer (some ⟨xb, 0, none⟩)) rfl (by kernel_rfl) (by kernel_rfl) (by kernel_rfl) (fun _ _ _ h => h) (Or.inl ⟨by rfl, ?_⟩) (by assumption) ?_
        · intro wz hSw; (try dsimp only at hSw); go_simp; try rfl
        try simp only [Act.put, List.getElem_toArray, List.getElem_cons_succ, List.getElem_cons_zero, List.setIfInBounds_toArray, List.set_cons_zero, List.set_cons_succ]
        refine wpAnyH_take (i := 1) (v := .pointer (some ⟨xb, 0, none⟩)) rfl (by kernel_rfl) (by kernel_rfl) (by kernel_rfl) (fun _ _ _ h => h) (Or.inl ⟨by rfl, ?_⟩) (by assumption) ?_
        · intro wz hSw; (try dsimp only at hSw); go_simp; try rfl
        try simp only [Act.put, List.getElem_toArray, List.getElem_cons_succ, List.getElem_cons_zero, List.setIfInBounds_toArray, List.set_cons_zero, List.set_cons_succ]
        refine wpAnyH_take (i := 2) (v := .pointer (some ⟨xb, 4, none⟩)) rfl (by kernel_rfl) (by kernel_rfl) (by kernel_rfl) (fun _ _ _ h => h) (Or.inl ⟨by rfl, ?_⟩) (by assumption) ?_
        · intro wz hSw; (try dsimp only at hSw); go_simp; try rfl
        try simp only [Act.put, List.getElem_toArray, List.getElem_cons_succ, List.getElem_cons_zero, List.setIfInBounds_toArray, List.set_cons_zero, List.set_cons_succ]
        refine wpAnyH_take (i := 3) (v := .slice none 0 0) rfl (by kernel_rfl) (by kernel_rfl) (by kernel_rfl) (fun _ _ _ h => h) (Or.inl ⟨by rfl, ?_⟩) (by assumption) ?_
        · intro wz hSw; (try dsimp only at hSw); go_simp; try rfl
        try simp only [Act.put, List.getElem_toArray, List.getElem_cons_succ, List.getElem_cons_zero, List.setIfInBounds_toArray, List.set_cons_zero, List.set_cons_succ]
        refine wpAnyH_take (i := 4) (v := .bool true) rfl (by kernel_rfl) (by kernel_rfl) (by kernel_rfl) (fun _ _ _ h => h) (Or.inl ⟨by rfl, ?_⟩) (by assumption) ?_
        · intro wz hSw; (try dsimp only at hSw); go_simp; try rfl
        try simp only [Act.put, List.getElem_toArray, List.getElem_cons_succ, List.getElem_cons_zero, List.setIfInBounds_toArray, List.set_cons_zero, List.set_cons_succ]
        refine wpAnyH_take (i := 5) (v := .bool true) rfl (by kernel_rfl) (by kernel_rfl) (by kernel_rfl) (fun _ _ _ h => h) (Or.inl ⟨by rfl, ?_⟩) (by assumption) ?_
        · intro wz hSw; (try dsimp only at hSw); go_simp; try rfl
        try simp only [Act.put, List.getElem_toArray, List.getElem_cons_succ, List.getElem_cons_zero, List.setIfInBounds_toArray, List.set_cons_zero, List.set_cons_succ]
        refine wpAnyH_take (i := 6) (v := undef) rfl (by kernel_rfl) (by kernel_rfl) (by kernel_rfl) (fun _ _ _ h => h) (Or.inr ⟨by kernel_rfl, rfl⟩) (by assumption) ?_
        try simp only [Act.put, List.getElem_toArray, List.getElem_cons_succ, List.getElem_cons_zero, List.setIfInBounds_toArray, List.set_cons_zero, List.set_cons_succ]
        refine wpAnyH_take (i := 7) (v := undef) rfl (by kernel_rfl) (by kernel_rfl) (by kernel_rfl) (fun _ _ _ h => h) (Or.inr ⟨by kernel_rfl, rfl⟩) (by assumption) ?_
        try simp only [Act.put, List.getElem_toArray, List.getElem_cons_succ, List.getElem_cons_zero, List.setIfInBounds_toArray, List.set_cons_zero, List.set_cons_succ]
        refine wpAnyH_take (i := 8) (v := undef) rfl (by kernel_rfl) (by kernel_rfl) (by kernel_rfl) (fun _ _ _ h => h) (Or.inr ⟨by kernel_rfl, rfl⟩) (by assumption) ?_
        try simp only [Act.put, List.getElem_toArray, List.getElem_cons_succ, List.getElem_cons_zero, List.setIfInBounds_toArray, List.set_cons_zero, List.set_cons_succ]
        refine wpAnyH_take (i := 9) (v := undef) rfl (by kernel_rfl) (by kernel_rfl) (by kernel_rfl) (fun _ _ _ h => h) (Or.inr ⟨by kernel_rfl, rfl⟩) (by assumption) ?_
        try simp only [Act.put, List.getElem_toArray, List.getElem_cons_succ, List.getElem_cons_zero, List.setIfInBounds_toArray, List.set_cons_zero, List.set_cons_succ]
        refine wpAnyH_take (i := 10) (v := undef) rfl (by kernel_rfl) (by kernel_rfl) (by kernel_rfl) (fun _ _ _ h => h) (Or.inr ⟨by kernel_rfl, rfl⟩) (by assumption) ?_
        try simp only [Act.put, List.getElem_toArray, List.getElem_cons_succ, List.getElem_cons_zero, List.setIfInBounds_toArray, List.set_cons_zero, List.set_cons_succ]
        refine wpAnyH_take (i := 11) (v := undef) rfl (by kernel_rfl) (by kernel_rfl) (by kernel_rfl) (fun _ _ _ h => h) (Or.inr ⟨by kernel_rfl, rfl⟩) (by assumption) ?_
        try simp only [Act.put, List.getElem_toArray, List.getElem_cons_succ, List.getElem_cons_zero, List.setIfInBounds_toArray, List.set_cons_zero, List.set_cons_succ]
        refine wpAnyH_take (i := 12) (v := undef) rfl (by kernel_rfl) (by kernel_rfl) (by kernel_rfl) (fun _ _ _ h => h) (Or.inr ⟨by kernel_rfl, rfl⟩) (by assumption) ?_
        try simp only [Act.put, List.getElem_toArray, List.getElem_cons_succ, List.getElem_cons_zero, List.setIfInBounds_toArray, List.set_cons_zero, List.set_cons_succ]
        refine wpAnyH_take (i := 13) (v := undef) rfl (by kernel_rfl) (by kernel_rfl) (by kernel_rfl) (fun _ _ _ h => h) (Or.inr ⟨by kernel_rfl, rfl⟩) (by assumption) ?_
        try simp only [Act.put, List.getElem_toArray, List.getElem_cons_succ, List.getElem_cons_zero, List.setIfInBounds_toArray, List.set_cons_zero, List.set_cons_succ]
        refine wpAnyH_take (i := 14) (v := undef) rfl (by kernel_rfl) (by kernel_rfl) (by kernel_rfl) (fun _ _ _ h => h) (Or.inr ⟨by kernel_rfl, rfl⟩) (by assumption) ?_
        try simp only [Act.put, List.getElem_toArray, List.getElem_cons_succ, List.getElem_cons_zero, List.setIfInBounds_toArray, List.set_cons_zero, List.set_cons_succ]
        refine wpAnyH_take (i := 15) (v := undef) rfl (by kernel_rfl) (by kernel_rfl) (by kernel_rfl) (fun _ _ _ h => h) (Or.inr ⟨by kernel_rfl, rfl⟩) (by assumption) ?_
        try simp only [Act.put, List.getElem_toArray, List.getElem_cons_succ, List.getElem_cons_zero, List.setIfInBounds_toArray, List.set_cons_zero, List.set_cons_succ]
        refine wpAnyH_take (i := 16) (v := .bool true) rfl (by kernel_rfl) (by kernel_rfl) (by kernel_rfl) (fun _ _ _ h => h) (Or.inl ⟨by rfl, ?_⟩) (by assumption) ?_
        · intro wz hSw; (try dsimp only at hSw); go_simp; try rfl
        try simp only [Act.put, List.getElem_toArray, List.getElem_cons_succ, List.getElem_cons_zero, List.setIfInBounds_toArray, List.set_cons_zero, List.set_cons_succ]
        refine wpAnyH_done (by kernel_rfl) ?_ _
        go_wp2
        go_meet
        exact ⟨by rw [dec_true (by simp)], below_dN (Below.refl _ _) 1⟩
      | some q =>
        obtain ⟨h1, _⟩ := HCI.out.bst
        obtain ⟨bg, bc, rfl, hbc⟩ := owns_some h1 (List.length_pos_iff.2 (HBNE.out q rfl))
        have hq28 : q.2.length ≤ 28 := by rw [(HBQ.out q rfl).2]; exact codeL_8 h8
        have HNB := Lib.hid (Nums.of_owns h1 (natInts_length q.2).symm (by omega))
        obtain ⟨z, hz2⟩ : ∃ z, cmpL code q.2 = z := ⟨_, rfl⟩
        have HD : Hid (decide (z < (0 : Int)) = dec (some q = none ∨ ∃ q', some q = some q' ∧ lexL code q'.2)) := Lib.hid (by
          rw [← hz2, cmpL_ltz]
          exact dec_congr ⟨fun h => .inr ⟨q, rfl, h⟩, fun h => by
            rcases h with h | ⟨_, e, h⟩
            · cases h
            · cases e; exact h⟩)
        have HZ := Lib.hid hz2
        clear h1 hz2
        refine wp_region_held_drew (S := fun w' => w'.cell? ⟨xb, 3, none⟩ = some (.slice cp code.length cc) ∧ w'.cell? ⟨xb, 4, none⟩ = some (.slice (some ⟨bg, 0, none⟩) q.2.length bc)) (by kernel_rfl) ?_ (fun hHeld => ?_)
        · exact ⟨hc3, hc4⟩
        refine wpAnyH_take (i := 0) (v := .pointer (some ⟨xb, 0, none⟩)) rfl (by kernel_rfl) (by kernel_rfl) (by kernel_rfl) (fun _ _ _ h => h) (Or.inl ⟨by rfl, ?_⟩) (by assumption) ?_
        · intro wz hSw; (try dsimp only at hSw); go_simp; try rfl
        try simp only [Act.put, List.getElem_toArray, List.getElem_cons_succ, List.getElem_cons_zero, List.setIfInBounds_toArray, List.set_cons_zero, List.set_cons_succ]
        refine wpAnyH_take (i := 1) (v := .pointer (some ⟨xb, 0, none⟩)) rfl (by kernel_rfl) (by kernel_rfl) (by kernel_rfl) (fun _ _ _ h => h) (Or.inl ⟨by rfl, ?_⟩) (by assumption) ?_
        · intro wz hSw; (try dsimp only at hSw); go_simp; try rfl
        try simp only [Act.put, List.getElem_toArray, List.getElem_cons_succ, List.getElem_cons_zero, List.setIfInBounds_toArray, List.set_cons_zero, List.set_cons_succ]
        refine wpAnyH_take (i := 2) (v := .pointer (some ⟨xb, 4, none⟩)) rfl (by kernel_rfl) (by kernel_rfl) (by kernel_rfl) (fun _ _ _ h => h) (Or.inl ⟨by rfl, ?_⟩) (by assumption) ?_
        · intro wz hSw; (try dsimp only at hSw); go_simp; try rfl
        try simp only [Act.put, List.getElem_toArray, List.getElem_cons_succ, List.getElem_cons_zero, List.setIfInBounds_toArray, List.set_cons_zero, List.set_cons_succ]
        refine wpAnyH_take (i := 3) (v := .slice (some ⟨bg, 0, none⟩) q.2.length bc) rfl (by kernel_rfl) (by kernel_rfl) (by kernel_rfl) (fun _ _ _ h => h) (Or.inl ⟨by rfl, ?_⟩) (by assumption) ?_
        · intro wz hSw; (try dsimp only at hSw); go_simp; try rfl
        try simp only [Act.put, List.getElem_toArray, List.getElem_cons_succ, List.getElem_cons_zero, List.setIfInBounds_toArray, List.set_cons_zero, List.set_cons_succ]
        refine wpAnyH_take (i := 4) (v := .bool false) rfl (by kernel_rfl) (by kernel_rfl) (by kernel_rfl) (fun _ _ _ h => h) (Or.inl ⟨by rfl, ?_⟩) (by assumption) ?_
        · intro wz hSw; (try dsimp only at hSw); go_simp; try rfl
        try simp only [Act.put, List.getElem_toArray, List.getElem_cons_succ, List.getElem_cons_zero, List.setIfInBounds_toArray, List.set_cons_zero, List.set_cons_succ]
        refine wpAnyH_take (i := 5) (v := .bool false) rfl (by kernel_rfl) (by kernel_rfl) (by kernel_rfl) (fun _ _ _ h => h) (Or.inl ⟨by rfl, ?_⟩) (by assumption) ?_
        · intro wz hSw; (try dsimp only at hSw); go_simp; try rfl
        try simp only [Act.put, List.getElem_toArray, List.getElem_cons_succ, List.getElem_cons_zero, List.setIfInBounds_toArray, List.set_cons_zero, List.set_cons_succ]
        refine wpAnyH_take (i := 6) (v := .pointer (some ⟨xb, 0, none⟩)) rfl (by kernel_rfl) (by kernel_rfl) (by kernel_rfl) (fun _ _ _ h => h) (Or.inl ⟨by rfl, ?_⟩) (by assumption) ?_
        · intro wz hSw; (try dsimp only at hSw); go_simp; try rfl
        try simp only [Act.put, List.getElem_toArray, List.getElem_cons_succ, List.getElem_cons_zero, List.setIfInBounds_toArray, List.set_cons_zero, List.set_cons_succ]
        refine wpAnyH_take (i := 7) (v := .pointer (some ⟨xb, 0, none⟩)) rfl (by kernel_rfl) (by kernel_rfl) (by kernel_rfl) (fun _ _ _ h => h) (Or.inl ⟨by rfl, ?_⟩) (by assumption) ?_
        · intro wz hSw; (try dsimp only at hSw); go_simp; try rfl
        try simp only [Act.put, List.getElem_toArray, List.getElem_cons_succ, List.getElem_cons_zero, List.setIfInBounds_toArray, List.set_cons_zero, List.set_cons_succ]
        refine wpAnyH_take (i := 8) (v := .pointer (some ⟨xb, 3, none⟩)) rfl (by kernel_rfl) (by kernel_rfl) (by kernel_rfl) (fun _ _ _ h => h) (Or.inl ⟨by rfl, ?_⟩) (by assumption) ?_
        · intro wz hSw; (try dsimp only at hSw); go_simp; try rfl
        try simp only [Act.put, List.getElem_toArray, List.getElem_cons_succ, List.getElem_cons_zero, List.setIfInBounds_toArray, List.set_cons_zero, List.set_cons_succ]
        refine wpAnyH_take (i := 9) (v := .slice cp code.length cc) rfl (by kernel_rfl) (by kernel_rfl) (by kernel_rfl) (fun _ _ _ h => h) (Or.inl ⟨by rfl, ?_⟩) (by assumption) ?_
        · intro wz hSw; (try dsimp only at hSw); go_simp; try rfl
        try simp only [Act.put, List.getElem_toArray, List.getElem_cons_succ, List.getElem_cons_zero, List.setIfInBounds_toArray, List.set_cons_zero, List.set_cons_succ]
        refine wpAnyH_take (i := 10) (v := .pointer (some ⟨xb, 0, none⟩)) rfl (by kernel_rfl) (by kernel_rfl) (by kernel_rfl) (fun _ _ _ h => h) (Or.inl ⟨by rfl, ?_⟩) (by assumption) ?_
        · intro wz hSw; (try dsimp only at hSw); go_simp; try rfl
        try simp only [Act.put, List.getElem_toArray, List.getElem_cons_succ, List.getElem_cons_zero, List.setIfInBounds_toArray, List.set_cons_zero, List.set_cons_succ]
        refine wpAnyH_take (i := 11) (v := .pointer (some ⟨xb, 0, none⟩)) rfl (by kernel_rfl) (by kernel_rfl) (by kernel_rfl) (fun _ _ _ h => h) (Or.inl ⟨by rfl, ?_⟩) (by assumption) ?_
        · intro wz hSw; (try dsimp only at hSw); go_simp; try rfl
        try simp only [Act.put, List.getElem_toArray, List.getElem_cons_succ, List.getElem_cons_zero, List.setIfInBounds_toArray, List.set_cons_zero, List.set_cons_succ]
        refine wpAnyH_take (i := 12) (v := .pointer (some ⟨xb, 4, none⟩)) rfl (by kernel_rfl) (by kernel_rfl) (by kernel_rfl) (fun _ _ _ h => h) (Or.inl ⟨by rfl, ?_⟩) (by assumption) ?_
        · intro wz hSw; (try dsimp only at hSw); go_simp; try rfl
        try simp only [Act.put, List.getElem_toArray, List.getElem_cons_succ, List.getElem_cons_zero, List.setIfInBounds_toArray, List.set_cons_zero, List.set_cons_succ]
        refine wpAnyH_take (i := 13) (v := .slice (some ⟨bg, 0, none⟩) q.2.length bc) rfl (by kernel_rfl) (by kernel_rfl) (by kernel_rfl) (fun _ _ _ h => h) (Or.inl ⟨by rfl, ?_⟩) (by assumption) ?_
        · intro wz hSw; (try dsimp only at hSw); go_simp; try rfl
        try simp only [Act.put, List.getElem_toArray, List.getElem_cons_succ, List.getElem_cons_zero, List.setIfInBounds_toArray, List.set_cons_zero, List.set_cons_succ]
        refine wpAnyH_ready (rs := [14]) (by kernel_rfl) (by simp) ?_
        refine AllReadyH.cons rfl (fun K hK => ?_) AllReadyH.nil
        go_simp
        go_at_call 201
        refine (slCompare64_any _ _ code q.2 _ (HNC.out.below (below_dN (Below.refl _ _) 1)) (HNB.out.below (below_dN (Below.refl _ _) 1))).mono ?_
        rintro e w4 ⟨he4, q4, hw4⟩
        rw [HZ.out] at he4
        subst he4
        subst hw4
        refine hK.out _ _ ?_ (fun hHeld => ?_)
        · exact ⟨hc3, hc4⟩
        clear hK K
        try simp only [Act.put, List.getElem_toArray, List.getElem_cons_succ, List.getElem_cons_zero, List.setIfInBounds_toArray, List.set_cons_zero, List.set_cons_succ]
        refine wpAnyH_take (i := 15) (v := .bool (decide (z < (0 : Int)))) rfl (by kernel_rfl) (by kernel_rfl) (by kernel_rfl) (fun _ _ _ h => h) (Or.inl ⟨by rfl, ?_⟩) (by assumption) ?_
        · intro wz hSw; (try dsimp only at hSw); go_simp; try rfl
        try simp only [Act.put, List.getElem_toArray, List.getElem_cons_succ, List.getElem_cons_zero, List.setIfInBounds_toArray, List.set_cons_zero, List.set_cons_succ]
        refine wpAnyH_take (i := 16) (v := .bool (decide (z < (0 : Int)))) rfl (by kernel_rfl) (by kernel_rfl) (by kernel_rfl) (fun _ _ _ h => h) (Or.inl ⟨by rfl, ?_⟩) (by assumption) ?_
        · intro wz hSw; (try dsimp only at hSw); go_simp; try rfl
        try simp only [Act.put, List.getElem_toArray, List.getElem_cons_succ, List.getElem_cons_zero, List.setIfInBounds_toArray, List.set_cons_zero, List.set_cons_succ]
        refine wpAnyH_done (by kernel_rfl) ?_ _
        go_wp2
        go_meet
        first | exact ⟨by rw [HD.out], below_dN (Below.refl _ _) _⟩ | exact ⟨by rw [HD.out], below_dN (below_dN (Below.refl _ _) 1) _⟩
    case rest =>
    obtain ⟨rfl, hb1⟩ := hcut
    replace HCI := Lib.hid (HCI.out.next hb1)
    replace HNC := Lib.hid (HNC.out.below hb1)
    clear hc3 hc4 hb1
    by_cases htk : b = none ∨ ∃ q, b = some q ∧ lexL code q.2
    · rw [dec_true htk]
      have HR : Hid ((compP a.length E 0 (o, code)).foldl better b = some (o, code)) := Lib.hid (by
        show better b (o, code) = _
        rcases htk with rfl | ⟨q, rfl, hq⟩
        · rfl
        · exact if_pos hq)
      clear htk
      have hc1 := HCI.out.cs.c1
      have hc3 := HCI.out.cs.c3
      have HSC := Lib.hid (Sl.of_owns HCI.out.cod (by omega))
      have HSO := Lib.hid (Sl.of_owns HCI.out.ord (by omega))
      go_upto_region 3 with fail
      refine wp_region_stg [(14, fun w' => w'.cell? ⟨xb, 3, none⟩ = some (.slice cp code.length cc)), (17, fun w' => w'.cell? ⟨xb, 1, none⟩ = some (.slice op o.length oc))] (by kernel_rfl) ?_ (fun hHeld => ?_)
      · exact .keep hc3 (.keep hc1 .nil)
      refine wpStg_pure (i := 0) (v := .pointer (some ⟨xb, 0, none⟩)) rfl (by kernel_rfl) (by kernel_rfl) (by kernel_rfl) (by kernel_rfl) (fun _ _ _ h => h) (Or.inl ⟨by rfl, ?_⟩) (by assumption) ?_
      · intro wz _; go_simp; try rfl
      try simp only [Act.put, List.getElem_toArray, List.getElem_cons_succ, List.getElem_cons_zero, List.setIfInBounds_toArray, List.set_cons_zero, List.set_cons_succ]
      refine wpStg_pure (i := 1) (v := .pointer (some ⟨xb, 0, none⟩)) rfl (by kernel_rfl) (by kernel_rfl) (by kernel_rfl) (by kernel_rfl) (fun _ _ _ h => h) (Or.inl ⟨by rfl, ?_⟩) (by assumption) ?_
      · intro wz _; go_simp; try rfl
      try simp only [Act.put, List.getElem_toArray, List.getElem_cons_succ, List.getElem_cons_zero, List.setIfInBounds_toArray, List.set_cons_zero, List.set_cons_succ]
      refine wpStg_pure (i := 2) (v := .pointer (some ⟨xb, 0, none⟩)) rfl (by kernel_rfl) (by kernel_rfl) (by kernel_rfl) (by kernel_rfl) (fun _ _ _ h => h) (Or.inl ⟨by rfl, ?_⟩) (by assumption) ?_
      · intro wz _; go_simp; try rfl
      try simp only [Act.put, List.getElem_toArray, List.getElem_cons_succ, List.getElem_cons_zero, List.setIfInBounds_toArray, List.set_cons_zero, List.set_cons_succ]
      refine wpStg_pure (i := 3) (v := .pointer (some ⟨xb, 0, none⟩)) rfl (by kernel_rfl) (by kernel_rfl) (by kernel_rfl) (by kernel_rfl) (fun _ _ _ h => h) (Or.inl ⟨by rfl, ?_⟩) (by assumption) ?_
      · intro wz _; go_simp; try rfl
      try simp only [Act.put, List.getElem_toArray, List.getElem_cons_succ, List.getElem_cons_zero, List.setIfInBounds_toArray, List.set_cons_zero, List.set_cons_succ]
      refine wpStg_pure (i := 4) (v := .pointer (some ⟨xb, 3, none⟩)) rfl (by kernel_rfl) (by kernel_rfl) (by kernel_rfl) (by kernel_rfl) (fun _ _ _ h => h) (Or.inl ⟨by rfl, ?_⟩) (by assumption) ?_
      · intro wz _; go_simp; try rfl
      try simp only [Act.put, List.getElem_toArray, List.getElem_cons_succ, List.getElem_cons_zero, List.setIfInBounds_toArray, List.set_cons_zero, List.set_cons_succ]
      refine wpStg_take (m := 0) (i := 5) (v := .slice cp code.length cc) rfl rfl (by kernel_rfl) (by kernel_rfl) (by kernel_rfl) (by kernel_rfl) (by kernel_rfl) (by kernel_rfl) (fun _ _ _ h => h) (Or.inl ⟨by rfl, ?_⟩) (by assumption) ?_
      · intro wz hSw; (try dsimp only at hSw); go_simp; try rfl
      try simp only [Act.put, List.getElem_toArray, List.getElem_cons_succ, List.getElem_cons_zero, List.setIfInBounds_toArray, List.set_cons_zero, List.set_cons_succ]
      refine wpStg_pure (i := 7) (v := .pointer (some ⟨xb, 0, none⟩)) rfl (by kernel_rfl) (by kernel_rfl) (by kernel_rfl) (by kernel_rfl) (fun _ _ _ h => h) (Or.inl ⟨by rfl, ?_⟩) (by assumption) ?_
      · intro wz _; go_simp; try rfl
      try simp only [Act.put, List.getElem_toArray, List.getElem_cons_succ, List.getElem_cons_zero, List.setIfInBounds_toArray, List.set_cons_zero, List.set_cons_succ]
      refine wpStg_pure (i := 8) (v := .pointer (some ⟨xb, 0, none⟩)) rfl (by kernel_rfl) (by kernel_rfl) (by kernel_rfl) (by kernel_rfl) (fun _ _ _ h => h) (Or.inl ⟨by rfl, ?_⟩) (by assumption) ?_
      · intro wz _; go_simp; try rfl
      try simp only [Act.put, List.getElem_toArray, List.getElem_cons_succ, List.getElem_cons_zero, List.setIfInBounds_toArray, List.set_cons_zero, List.set_cons_succ]
      refine wpStg_pure (i := 9) (v := .pointer (some ⟨xb, 1, none⟩)) rfl (by kernel_rfl) (by kernel_rfl) (by kernel_rfl) (by kernel_rfl) (fun _ _ _ h => h) (Or.inl ⟨by rfl, ?_⟩) (by assumption) ?_
      · intro wz _; go_simp; try rfl
      try simp only [Act.put, List.getElem_toArray, List.getElem_cons_succ, List.getElem_cons_zero, List.setIfInBounds_toArray, List.set_cons_zero, List.set_cons_succ]
      refine wpStg_take (m := 1) (i := 10) (v := .slice op o.length oc) rfl rfl (by kernel_rfl) (by kernel_rfl) (by kernel_rfl) (by kernel_rfl) (by kernel_rfl) (by kernel_rfl) (fun _ _ _ h => h) (Or.inl ⟨by rfl, ?_⟩) (by assumption) ?_
      · intro wz hSw; (try dsimp only at hSw); go_simp; try rfl
      try simp only [Act.put, List.getElem_toArray, List.getElem_cons_succ, List.getElem_cons_zero, List.setIfInBounds_toArray, List.set_cons_zero, List.set_cons_succ]
      refine wpStg_one (i := 6) (by kernel_rfl) rfl (fun K hK => ?_)
      go_simp
      go_at_call 202
      refine (clone64_any _ code.length _ (oneCell_ints _ (natInts code)) (by rw [List.length_map, natInts_length]) _ (HSC.out.below (below_dN (Below.refl _ _) 1))).mono ?_
      rintro e w4 ⟨bn, rfl, hbn, hb4⟩
      have HB4 : Hid (Below wc.heap.size wc w4) := Lib.hid ((below_dN (Below.refl _ _) 1).trans hb4)
      obtain ⟨bnp, bnc, rfl, _⟩ := owns_capL hbn
      have HBN := Lib.hid hbn
      clear hbn hb4
      refine hK.out _ _ ?_ (fun hHeld => ?_)
      · exact .keep (HB4.out.at' hc3) (.keep (HB4.out.at' hc1) .nil)
      clear hK K
      try simp only [Act.put, List.getElem_toArray, List.getElem_cons_succ, List.getElem_cons_zero, List.setIfInBounds_toArray, List.set_cons_zero, List.set_cons_succ]
      refine wpStg_one (i := 11) (by kernel_rfl) rfl (fun K hK => ?_)
      go_simp
      go_at_call 196
      refine (cloneInt_any _ o.length _ (oneCell_ints _ (natInts o)) (by rw [List.length_map, natInts_length]) _ (HSO.out.below HB4.out)).mono ?_
      rintro e w5 ⟨fn, rfl, hfn, hb5⟩
      obtain ⟨fnp, fnc, rfl, _⟩ := owns_capL hfn
      have HB5 : Hid (Below wc.heap.size wc w5) := Lib.hid (HB4.out.trans (hb5.mono HB4.out.size))
      have HBN5 := Lib.hid (ownsRow_below HBN.out hb5)
      have HFN := Lib.hid (ownsRow_base hfn HB4.out.size)
      have CS5 := (HCI.out.next HB5.out).cs
      have hc4x := CS5.c4
      have hf4x := CS5.free 4
      have hc5x := (CS5.s4 (.slice bnp code.length bnc)).c5
      have hf5x := (CS5.s4 (.slice bnp code.length bnc)).free 5
      clear hfn hb5 CS5
      refine hK.out _ _ ?_ (fun hHeld => ?_)
      · exact .keep (HB5.out.at' hc3) (.keep (HB5.out.at' hc1) .nil)
      clear hK K
      try simp only [Act.put, List.getElem_toArray, List.getElem_cons_succ, List.getElem_cons_zero, List.setIfInBounds_toArray, List.set_cons_zero, List.set_cons_succ]
      refine wpStg_pure (i := 12) (v := .pointer (some ⟨xb, 0, none⟩)) rfl (by kernel_rfl) (by kernel_rfl) (by kernel_rfl) (by kernel_rfl) (fun _ _ _ h => h) (Or.inl ⟨by rfl, ?_⟩) (by assumption) ?_
      · intro wz _; go_simp; try rfl
      try simp only [Act.put, List.getElem_toArray, List.getElem_cons_succ, List.getElem_cons_zero, List.setIfInBounds_toArray, List.set_cons_zero, List.set_cons_succ]
      refine wpStg_pure (i := 13) (v := .pointer (some ⟨xb, 4, none⟩)) rfl (by kernel_rfl) (by kernel_rfl) (by kernel_rfl) (by kernel_rfl) (fun _ _ _ h => h) (Or.inl ⟨by rfl, ?_⟩) (by assumption) ?_
      · intro wz _; go_simp; try rfl
      try simp only [Act.put, List.getElem_toArray, List.getElem_cons_succ, List.getElem_cons_zero, List.setIfInBounds_toArray, List.set_cons_zero, List.set_cons_succ]
      refine wpStg_one (i := 14) (by kernel_rfl) rfl (fun K hK => ?_)
      go_simp
      refine hK.out _ _ ?_ (fun hHeld => ?_)
      · exact .skip (by kernel_rfl) (.keep (((HCI.out.next HB5.out).cs.s4 (.slice bnp code.length bnc)).c1) .nil)
      clear hK K
      try simp only [Act.put, List.getElem_toArray, List.getElem_cons_succ, List.getElem_cons_zero, List.setIfInBounds_toArray, List.set_cons_zero, List.set_cons_succ]
      refine wpStg_pure (i := 15) (v := .pointer (some ⟨xb, 0, none⟩)) rfl (by kernel_rfl) (by kernel_rfl) (by kernel_rfl) (by kernel_rfl) (fun _ _ _ h => h) (Or.inl ⟨by rfl, ?_⟩) (by assumption) ?_
      · intro wz _; go_simp; try rfl
      try simp only [Act.put, List.getElem_toArray, List.getElem_cons_succ, List.getElem_cons_zero, List.setIfInBounds_toArray, List.set_cons_zero, List.set_cons_succ]
      refine wpStg_pure (i := 16) (v := .pointer (some ⟨xb, 5, none⟩)) rfl (by kernel_rfl) (by kernel_rfl) (by kernel_rfl) (by kernel_rfl) (fun _ _ _ h => h) (Or.inl ⟨by rfl, ?_⟩) (by assumption) ?_
      · intro wz _; go_simp; try rfl
      try simp only [Act.put, List.getElem_toArray, List.getElem_cons_succ, List.getElem_cons_zero, List.setIfInBounds_toArray, List.set_cons_zero, List.set_cons_succ]
      refine wpStg_one (i := 17) (by kernel_rfl) rfl (fun K hK => ?_)
      go_simp
      refine hK.out _ _ ?_ (fun hHeld => ?_)
      · exact .skip (by kernel_rfl) (.skip (by kernel_rfl) .nil)
      clear hK K
      try simp only [Act.put, List.getElem_toArray, List.getElem_cons_succ, List.getElem_cons_zero, List.setIfInBounds_toArray, List.set_cons_zero, List.set_cons_succ]
      refine wpStg_done (by kernel_rfl) ?_ _
      go_wp2_with fail
      try simp only [Exit.inBlock, Exit.then]
      refine bodyPost_ret (results_none rfl _ _ _) rfl ?_
      exact ⟨rfl, _, _, _, _, by rw [HR.out]; exact HCI.out.best HB5.out HBN5.out HFN.out⟩
    · rw [dec_false htk]
      have HR : Hid ((compP a.length E 0 (o, code)).foldl better b = b) := Lib.hid (by
        show better b (o, code) = _
        cases b with
        | none => exact absurd (.inl rfl) htk
        | some q => exact if_neg fun h => htk (.inr ⟨q, rfl, h⟩))
      clear htk
      go_wp2_with fail
      try simp only [Exit.inBlock, Exit.then]
      refine bodyPost_ret (results_none rfl _ _ _) rfl ?_
      exact ⟨rfl, _, _, _, _, by rw [HR.out]; exact HCI.out⟩
  · obtain rfl : z = false := by
      cases z
      · rfl
      · exact absurd (hz.1 rfl) hm
    obtain ⟨m', rfl⟩ : ∃ m', m = m' + 1 := ⟨m - 1, by omega⟩
    have hc0 := HCI.out.cs.c0
    have HCI0 : Hid (∃ (v : Nat) (bb : Option PrC) (ov cv bv fv : Value), v ≤ a.length ∧ Value.int .i64 0 = .int .i64 v ∧ Hid (bb = (kidsTo a.length E m' (o, code) v).foldl better b) ∧ CI w1 xb (.slice ap a.length ac) wc o us code bb ov cv bv fv) := Lib.hid ⟨0, b, _, _, _, _, Nat.zero_le _, rfl, Lib.hid rfl, HCI.out⟩
    clear hz hm HCI HNC hcl28 hoc hcc
    go_wp2_with fail
    go_loopw [79] (fun iv wr => ∃ (v : Nat) (bb : Option PrC) (ov cv bv fv : Value), v ≤ a.length ∧ iv = .int .i64 v ∧ Hid (bb = (kidsTo a.length E m' (o, code) v).foldl better b) ∧ CI w1 xb (.slice ap a.length ac) wr o us code bb ov cv bv fv) (fun iv _ => a.length - (intOf iv).toNat)
    case atStart => exact HCI0.out
    case round =>
      clear HCI0 hc0
      obtain ⟨v, bb, ov, cv, bv, fv, hv, rfl, HBB, hci⟩ := hrel
      by_cases hlt : v < a.length
      · have hc2 := hci.cs.c2
        have hvb : us.testBit v = decide (v ∈ o) := by rw [HUS.out]; exact bit_natMask o v
        by_cases hvo : v ∈ o
        · rw [decide_eq_true hvo] at hvb
          have HVB := Lib.hid hvb
          have HVO := Lib.hid hvo
          have HCI := Lib.hid hci
          clear hvb hvo hci
          go_wp2_with (go_at_call 175; refine (has_any _ _ us v rfl rfl (by omega) (by omega) _).mono ?_; rintro e w2 ⟨he, hw⟩; rw [HVB.out] at he; subst he; subst hw)
          go_roundw
          case rel => exact ⟨v + 1, bb, ov, cv, bv, fv, by omega, by go_num, Lib.hid (by rw [kidsTo_no HVO.out]; exact HBB.out), HCI.out⟩
          case measure => simp [intOf]; omega
        · rw [decide_eq_false hvo] at hvb
          have HVB := Lib.hid hvb
          have HVO := Lib.hid hvo
          have hc3 := hci.cs.c3
          have hc1 := hci.cs.c1
          obtain ⟨cp, cc, rfl, hcc⟩ := owns_capL hci.cod
          obtain ⟨op, oc, rfl, hoc⟩ := owns_capL hci.ord
          have HCI0 : Hid (∃ (j : Nat) (cv : Value), j ≤ o.length ∧ Value.int .i64 0 = .int .i64 j ∧ CI w1 xb (.slice ap a.length ac) wr o us (code ++ rowC E (o.take j) v) bb (.slice op o.length oc) cv bv fv) := Lib.hid ⟨0, _, Nat.zero_le _, rfl, by rw [List.take_zero]; show CI _ _ _ _ _ _ (code ++ []) _ _ _ _ _; rw [List.append_nil]; exact hci⟩
          clear hvb hvo hci
          go_wp2_with (go_at_call 175; refine (has_any _ _ us v rfl rfl (by omega) (by omega) _).mono ?_; rintro e w2 ⟨he, hw⟩; rw [HVB.out] at he; subst he; subst hw)
          go_loopw [98] (fun jv wx => ∃ (j : Nat) (cv : Value), j ≤ o.length ∧ jv = .int .i64 j ∧ CI w1 xb (.slice ap a.length ac) wx o us (code ++ rowC E (o.take j) v) bb (.slice op o.length oc) cv bv fv) (fun jv _ => o.length - (intOf jv).toNat)
          case atStart => exact HCI0.out
          case round =>
            clear HCI0 hc1 hc2 hc3
            obtain ⟨j, cv, hj, rfl, hci⟩ := hrel
            have HCI := Lib.hid hci
            by_cases hltj : j < o.length
            · obtain ⟨cp, cc, rfl, hcc⟩ := owns_capL hci.cod
              obtain ⟨x, hx⟩ : ∃ x, x = o[j] := ⟨_, rfl⟩
              have hxa : x < a.length := by rw [hx]; exact HORD.out.lt _ (List.getElem_mem hltj)
              obtain ⟨ob, oc', eo, _⟩ := owns_some hci.ord (by omega)
              simp only [Value.slice.injEq] at eo
              obtain ⟨rfl, _, rfl⟩ := eo
              have hck : wr.cell? ⟨ob, j, none⟩ = some (.int .i64 (x : Int)) := by rw [hci.ord.cellAt j (by omega), hx]; simp [natInts, hltj]
              obtain ⟨ab, ao, rfl, hca⟩ := nets_cell (hci.nets HN.out) hlt
              have hs16 := HA.out _ (List.getElem_mem hlt)
              have hbit : a[v].testBit x = E x v := by rw [HE.out x v hxa hlt]; simp [hlt]
              have hc0 := hci.cs.c0
              have hc3 := hci.cs.c3
              obtain ⟨L, hL⟩ : ∃ L, L = code ++ rowC E (o.take j) v := ⟨_, rfl⟩
              have hLn : L.length < 1000000 := by
                rw [hL, List.length_append, rowC_length, HCL.out]
                have := codeL_8 (show o.length ≤ 8 by omega)
                have := List.length_take_le j o
                omega
              rw [← hL] at HCI hc3
              have HR : Hid (∀ y : Nat, y = (if E x v then 1 else 0) → code ++ rowC E (o.take (j + 1)) v = L ++ [y]) := Lib.hid (fun y hy => by rw [rowC_take hltj, ← List.append_assoc, ← hL, hy, hx])
              have HOW : Hid (wr.ownsRow (xb + 1) 2 1 (.slice cp L.length cc) L.length ((natInts L).map (Value.int .i64))) := Lib.hid HCI.out.cod
              have hlx := hci.cs.lt
              clear hci hx hL hcc HORD
              cases hE' : E x v
              · have hb' : a[v].testBit x = false := by rw [hbit, hE']
                clear hbit
                go_wp2_with (first
                  | (go_at_call 175; refine (has_any _ _ a[v] x rfl rfl (by omega) (by omega) _).mono ?_; rintro e w2 ⟨he, hw⟩; rw [hb'] at he; subst he; subst hw)
                  | (at_builtin; refine wpList_app1s ty_i64 rfl rfl rfl HOW.out rfl rfl (by omega) (Nat.succ_le_of_lt hlx) ?_; intro b8 c8 w8 hown8 hg8 hf8; have hg8x : wr.grownBy w8 (Value.slice cp L.length cc).ownBlock := hg8; have hf8x : (Value.slice cp L.length cc).ownBlock = some b8 ∨ wr.heap.size < b8 := hf8; have hx8 : w8.heap[xb]? = _ := hg8x.block xb hlx (fun e => by have := (HOW.out.lt xb e.symm).1; omega); have C8 := HCI.out.cs.to hx8; have O8 := Lib.hid (HCI.out.bitMore (x := 0) hown8 hg8x hf8x); have hc3y := C8.c3; have hf3y := C8.free 3; clear hown8 hg8 hf8 hg8x hf8x hx8 C8))
                go_roundw
                case rel => exact ⟨j + 1, _, by omega, by go_num, by rw [HR.out 0 (by rw [hE']; rfl)]; exact O8.out⟩
                case measure => simp [intOf]; omega
              · have hb' : a[v].testBit x = true := by rw [hbit, hE']
                clear hbit
                go_wp2_with (first
                  | (go_at_call 175; refine (has_any _ _ a[v] x rfl rfl (by omega) (by omega) _).mono ?_; rintro e w2 ⟨he, hw⟩; rw [hb'] at he; subst he; subst hw)
                  | (at_builtin; refine wpList_app1s ty_i64 rfl rfl rfl HOW.out rfl rfl (by omega) (Nat.succ_le_of_lt hlx) ?_; intro b8 c8 w8 hown8 hg8 hf8; have hg8x : wr.grownBy w8 (Value.slice cp L.length cc).ownBlock := hg8; have hf8x : (Value.slice cp L.length cc).ownBlock = some b8 ∨ wr.heap.size < b8 := hf8; have hx8 : w8.heap[xb]? = _ := hg8x.block xb hlx (fun e => by have := (HOW.out.lt xb e.symm).1; omega); have C8 := HCI.out.cs.to hx8; have O8 := Lib.hid (HCI.out.bitMore (x := 1) hown8 hg8x hf8x); have hc3y := C8.c3; have hf3y := C8.free 3; clear hown8 hg8 hf8 hg8x hf8x hx8 C8))
                go_roundw
                case rel => exact ⟨j + 1, _, by omega, by go_num, by rw [HR.out 1 (by rw [hE']; rfl)]; exact O8.out⟩
                case measure => simp [intOf]; omega
            · obtain rfl : j = o.length := by omega
              rw [List.take_length] at hci
              obtain ⟨L, hL⟩ : ∃ L, L = code ++ rowC E o v := ⟨_, rfl⟩
              rw [← hL] at hci
              obtain ⟨cp, cc, rfl, hcc⟩ := owns_capL hci.cod
              replace HCI := Lib.hid hci
              have hc1 := hci.cs.c1
              have hc2 := hci.cs.c2
              have hlx := hci.cs.lt
              have HOR : Hid (wr.drew.ownsRow (xb + 1) 3 1 (.slice op o.length oc) o.length ((natInts o).map (Value.int .i64))) := Lib.hid hci.ord
              obtain ⟨pv, hpv⟩ : ∃ pv, pv = 2 ^ v := ⟨_, rfl⟩
              have ONE : Hid (∀ w, Calls Tryd.prog 156 #[.int .i64 (v : Int)] w fun e w' => e = .returned (.int .u32 (pv : Int)) ∧ w = w') := Lib.hid (fun w => by rw [hpv]; exact one_any (v : Int) v rfl (by omega) w)
              obtain ⟨us2, hus2⟩ : ∃ us2, us2 = us ||| pv := ⟨_, rfl⟩
              have hp16 : pv < 65536 := by rw [hpv]; exact pow_lt16 v (by omega)
              have hor : bits BinOp.or IntKind.u32 (us : Int) (pv : Int) = (us2 : Int) := by rw [hus2]; exact or_u32 us pv hus16 hp16
              have hu16 : us2 < 65536 := by rw [hus2]; exact or_lt16 _ _ hus16 hp16
              have hand : bits BinOp.andNot IntKind.u32 (us2 : Int) (pv : Int) = (us : Int) := by
                refine (u32_andNot_nat us2 pv (by omega) (by omega)).trans ?_
                show ((sub us2 pv : Nat) : Int) = _
                rw [hus2, hpv, HUS.out, mask_back (fun u hu => by have := HORD.out.lt u hu; omega) (by omega) HVO.out]
              have I1 : Hid (us2 = mask (natInts (o ++ [v]))) := Lib.hid (by rw [mask_app, ← HUS.out, ← hpv, hus2])
              have hst := HORD.out.step E hlt HVO.out
              have I2 : Hid (OrdK a.length (o ++ [v]).length (o ++ [v], L)) := Lib.hid (by rw [List.length_append, hL]; exact hst)
              have I3 : Hid ((o ++ [v]).length + m' = a.length) := Lib.hid (by rw [List.length_append]; show o.length + 1 + m' = _; omega)
              have I4 : Hid (L.length = codeL (o ++ [v]).length) := Lib.hid (by rw [List.length_append, hL]; exact step_code E (p := (o, code)) rfl HCL.out)
              have I5 : Hid (∀ q, bb = some q → BQ a.length q) := Lib.hid (fun q hq => fold_bq _ b (kidsTo_bq (E := E) (m := m') (p := (o, code)) hv HORD.out HCL.out hlen) HBQ.out q (by rw [← HBB.out]; exact hq))
              have I6 : Hid (∀ q, bb = some q → q.2 ≠ []) := Lib.hid (fun q hq => by
                by_cases h2 : 2 ≤ a.length
                · have h3 := (I5.out q hq).2
                  have h4 := codeL_pos h2
                  intro e
                  rw [e] at h3
                  simp only [List.length_nil] at h3
                  omega
                · obtain rfl : v = 0 := by omega
                  exact HBNE.out q (by rw [← hq, HBB.out]; rfl))
              have I7 : Hid ((compP a.length E m' (o ++ [v], L)).foldl better bb = (kidsTo a.length E m' (o, code) (v + 1)).foldl better b) := Lib.hid (by
                rw [kidsTo_yes HVO.out, List.foldl_append, ← HBB.out, hL]; rfl)
              have hLL : L.length < 1000000 := by rw [I4.out]; have := codeL_8 (show (o ++ [v]).length ≤ 8 by have := I3.out; omega); omega
              have TK : Hid ((o ++ [v]).take o.length = o ∧ L.take code.length = code ∧ o.length ≤ (o ++ [v]).length ∧ code.length ≤ L.length) := Lib.hid ⟨by simp, by rw [hL]; simp, by simp, by rw [hL]; simp⟩
              have LO : Hid ((o ++ [v]).length = o.length + 1) := Lib.hid (by simp)
              clear hci hL hpv hus2 hst hcc
              go_upto_region 17 with fail
              refine wp_region_stg [(18, fun w' => w'.cell? ⟨xb, 1, none⟩ = some (.slice op o.length oc)), (21, fun w' => w'.cell? ⟨xb, 2, none⟩ = some (.int .u32 (us : Int)))] (by kernel_rfl) ?_ (fun hHeld => ?_)
              · exact .keep hc1 (.keep hc2 .nil)
              refine wpStg_pure (i := 0) (v := .pointer (some ⟨xb, 0, none⟩)) rfl (by kernel_rfl) (by kernel_rfl) (by kernel_rfl) (by kernel_rfl) (fun _ _ _ h => h) (Or.inl ⟨by rfl, ?_⟩) (by assumption) ?_
              · intro wz _; go_simp; try rfl
              try simp only [Act.put, List.getElem_toArray, List.getElem_cons_succ, List.getElem_cons_zero, List.setIfInBounds_toArray, List.set_cons_zero, List.set_cons_succ]
              refine wpStg_pure (i := 1) (v := .pointer (some ⟨xb, 0, none⟩)) rfl (by kernel_rfl) (by kernel_rfl) (by kernel_rfl) (by kernel_rfl) (fun _ _ _ h => h) (Or.inl ⟨by rfl, ?_⟩) (by assumption) ?_
              · intro wz _; go_simp; try rfl
              try simp only [Act.put, List.getElem_toArray, List.getElem_cons_succ, List.getElem_cons_zero, List.setIfInBounds_toArray, List.set_cons_zero, List.set_cons_succ]
              refine wpStg_pure (i := 2) (v := .pointer (some ⟨xb, 0, none⟩)) rfl (by kernel_rfl) (by kernel_rfl) (by kernel_rfl) (by kernel_rfl) (fun _ _ _ h => h) (Or.inl ⟨by rfl, ?_⟩) (by assumption) ?_
              · intro wz _; go_simp; try rfl
              try simp only [Act.put, List.getElem_toArray, List.getElem_cons_succ, List.getElem_cons_zero, List.setIfInBounds_toArray, List.set_cons_zero, List.set_cons_succ]
              refine wpStg_pure (i := 3) (v := .pointer (some ⟨xb, 0, none⟩)) rfl (by kernel_rfl) (by kernel_rfl) (by kernel_rfl) (by kernel_rfl) (fun _ _ _ h => h) (Or.inl ⟨by rfl, ?_⟩) (by assumption) ?_
              · intro wz _; go_simp; try rfl
              try simp only [Act.put, List.getElem_toArray, List.getElem_cons_succ, List.getElem_cons_zero, List.setIfInBounds_toArray, List.set_cons_zero, List.set_cons_succ]
              refine wpStg_pure (i := 4) (v := .pointer (some ⟨xb, 1, none⟩)) rfl (by kernel_rfl) (by kernel_rfl) (by kernel_rfl) (by kernel_rfl) (fun _ _ _ h => h) (Or.inl ⟨by rfl, ?_⟩) (by assumption) ?_
              · intro wz _; go_simp; try rfl
              try simp only [Act.put, List.getElem_toArray, List.getElem_cons_succ, List.getElem_cons_zero, List.setIfInBounds_toArray, List.set_cons_zero, List.set_cons_succ]
              refine wpStg_take (m := 0) (i := 5) (v := .slice op o.length oc) rfl rfl (by kernel_rfl) (by kernel_rfl) (by kernel_rfl) (by kernel_rfl) (by kernel_rfl) (by kernel_rfl) (fun _ _ _ h => h) (Or.inl ⟨by rfl, ?_⟩) (by assumption) ?_
              · intro wz hSw; (try dsimp only at hSw); go_simp; try rfl
              try simp only [Act.put, List.getElem_toArray, List.getElem_cons_succ, List.getElem_cons_zero, List.setIfInBounds_toArray, List.set_cons_zero, List.set_cons_succ]
              refine wpStg_pure (i := 6) (v := .int .i64 (v : Int)) rfl (by kernel_rfl) (by kernel_rfl) (by kernel_rfl) (by kernel_rfl) (fun _ _ _ h => h) (Or.inl ⟨by rfl, ?_⟩) (by assumption) ?_
              · intro wz _; go_simp; try rfl
              try simp only [Act.put, List.getElem_toArray, List.getElem_cons_succ, List.getElem_cons_zero, List.setIfInBounds_toArray, List.set_cons_zero, List.set_cons_succ]
              refine wpStg_pure (i := 9) (v := .pointer (some ⟨xb, 0, none⟩)) rfl (by kernel_rfl) (by kernel_rfl) (by kernel_rfl) (by kernel_rfl) (fun _ _ _ h => h) (Or.inl ⟨by rfl, ?_⟩) (by assumption) ?_
              · intro wz _; go_simp; try rfl
              try simp only [Act.put, List.getElem_toArray, List.getElem_cons_succ, List.getElem_cons_zero, List.setIfInBounds_toArray, List.set_cons_zero, List.set_cons_succ]
              refine wpStg_pure (i := 10) (v := .pointer (some ⟨xb, 0, none⟩)) rfl (by kernel_rfl) (by kernel_rfl) (by kernel_rfl) (by kernel_rfl) (fun _ _ _ h => h) (Or.inl ⟨by rfl, ?_⟩) (by assumption) ?_
              · intro wz _; go_simp; try rfl
              try simp only [Act.put, List.getElem_toArray, List.getElem_cons_succ, List.getElem_cons_zero, List.setIfInBounds_toArray, List.set_cons_zero, List.set_cons_succ]
              refine wpStg_pure (i := 11) (v := .pointer (some ⟨xb, 2, none⟩)) rfl (by kernel_rfl) (by kernel_rfl) (by kernel_rfl) (by kernel_rfl) (fun _ _ _ h => h) (Or.inl ⟨by rfl, ?_⟩) (by assumption) ?_
              · intro wz _; go_simp; try rfl
              try simp only [Act.put, List.getElem_toArray, List.getElem_cons_succ, List.getElem_cons_zero, List.setIfInBounds_toArray, List.set_cons_zero, List.set_cons_succ]
              refine wpStg_take (m := 1) (i := 12) (v := .int .u32 (us : Int)) rfl rfl (by kernel_rfl) (by kernel_rfl) (by kernel_rfl) (by kernel_rfl) (by kernel_rfl) (by kernel_rfl) (fun _ _ _ h => h) (Or.inl ⟨by rfl, ?_⟩) (by assumption) ?_
              · intro wz hSw; (try dsimp only at hSw); go_simp; try rfl
              try simp only [Act.put, List.getElem_toArray, List.getElem_cons_succ, List.getElem_cons_zero, List.setIfInBounds_toArray, List.set_cons_zero, List.set_cons_succ]
              refine wpStg_pure (i := 13) (v := .int .i64 (v : Int)) rfl (by kernel_rfl) (by kernel_rfl) (by kernel_rfl) (by kernel_rfl) (fun _ _ _ h => h) (Or.inl ⟨by rfl, ?_⟩) (by assumption) ?_
              · intro wz _; go_simp; try rfl
              try simp only [Act.put, List.getElem_toArray, List.getElem_cons_succ, List.getElem_cons_zero, List.setIfInBounds_toArray, List.set_cons_zero, List.set_cons_succ]
              refine wpStg_one (i := 7) (by kernel_rfl) rfl (fun K hK => ?_)
              go_simp
              refine hK.out _ _ ?_ (fun hHeld => ?_)
              · exact .keep ((below_alloc _ _).at' hc1) (.keep ((below_alloc _ _).at' hc2) .nil)
              clear hK K
              try simp only [Act.put, List.getElem_toArray, List.getElem_cons_succ, List.getElem_cons_zero, List.setIfInBounds_toArray, List.set_cons_zero, List.set_cons_succ]
              refine wpStg_one (i := 8) (by kernel_rfl) rfl (fun K hK => ?_)
              refine step_app1f ty_int (w := wr.drew) rfl rfl rfl HOR.out rfl rfl (by omega) (Nat.succ_le_of_lt hlx) ?_
              intro b8 c8 w8 hown8 hg8 hf8
              have hg8x : wr.grownBy w8 (Value.slice op o.length oc).ownBlock := ⟨hg8.os, hg8.tape, hg8.output, hg8.size, hg8.block⟩
              have hf8x : (Value.slice op o.length oc).ownBlock = some b8 ∨ wr.heap.size < b8 := hf8
              have hx8 : w8.heap[xb]? = _ := hg8x.block xb hlx (fun e => by have := (HOR.out.lt xb e.symm).1; omega)
              have C8 := HCI.out.cs.to hx8
              have O8 := Lib.hid (fun us2 : Nat => HCI.out.order (us' := us2) hown8 hg8x hf8x)
              have hc1y := C8.c1
              have hc2y := C8.c2
              have hf1y := C8.free 1
              have hc2z := (C8.s1 (.slice (some ⟨b8, 0, none⟩) (o.length + 1) c8)).c2
              have hf2z := (C8.s1 (.slice (some ⟨b8, 0, none⟩) (o.length + 1) c8)).free 2
              clear hown8 hg8 hg8x hf8 hf8x hx8 C8
              refine hK.out _ _ ?_ (fun hHeld => ?_)
              · exact .keep hc1y (.keep hc2y .nil)
              clear hK K
              try simp only [Act.put, List.getElem_toArray, List.getElem_cons_succ, List.getElem_cons_zero, List.setIfInBounds_toArray, List.set_cons_zero, List.set_cons_succ]
              refine wpStg_one (i := 14) (by kernel_rfl) rfl (fun K hK => ?_)
              go_simp
              go_at_call 156
              refine (ONE.out _).mono ?_
              rintro e w9 ⟨rfl, rfl⟩
              refine hK.out _ _ ?_ (fun hHeld => ?_)
              · exact .keep hc1y (.keep hc2y .nil)
              clear hK K
              try simp only [Act.put, List.getElem_toArray, List.getElem_cons_succ, List.getElem_cons_zero, List.setIfInBounds_toArray, List.set_cons_zero, List.set_cons_succ]
              refine wpStg_pure (i := 15) (v := .int .u32 (us2 : Int)) rfl (by kernel_rfl) (by kernel_rfl) (by kernel_rfl) (by kernel_rfl) (fun _ _ _ h => h) (Or.inl ⟨by rfl, ?_⟩) (by assumption) ?_
              · intro wz _; go_simp; try rfl
              try simp only [Act.put, List.getElem_toArray, List.getElem_cons_succ, List.getElem_cons_zero, List.setIfInBounds_toArray, List.set_cons_zero, List.set_cons_succ]
              refine wpStg_pure (i := 16) (v := .pointer (some ⟨xb, 0, none⟩)) rfl (by kernel_rfl) (by kernel_rfl) (by kernel_rfl) (by kernel_rfl) (fun _ _ _ h => h) (Or.inl ⟨by rfl, ?_⟩) (by assumption) ?_
              · intro wz _; go_simp; try rfl
              try simp only [Act.put, List.getElem_toArray, List.getElem_cons_succ, List.getElem_cons_zero, List.setIfInBounds_toArray, List.set_cons_zero, List.set_cons_succ]
              refine wpStg_pure (i := 17) (v := .pointer (some ⟨xb, 1, none⟩)) rfl (by kernel_rfl) (by kernel_rfl) (by kernel_rfl) (by kernel_rfl) (fun _ _ _ h => h) (Or.inl ⟨by rfl, ?_⟩) (by assumption) ?_
              · intro wz _; go_simp; try rfl
              try simp only [Act.put, List.getElem_toArray, List.getElem_cons_succ, List.getElem_cons_zero, List.setIfInBounds_toArray, List.set_cons_zero, List.set_cons_succ]
              refine wpStg_one (i := 18) (by kernel_rfl) rfl (fun K hK => ?_)
              go_simp
              refine hK.out _ _ ?_ (fun hHeld => ?_)
              · exact .skip (by kernel_rfl) (.keep hc2z .nil)
              clear hK K
              try simp only [Act.put, List.getElem_toArray, List.getElem_cons_succ, List.getElem_cons_zero, List.setIfInBounds_toArray, List.set_cons_zero, List.set_cons_succ]
              refine wpStg_pure (i := 19) (v := .pointer (some ⟨xb, 0, none⟩)) rfl (by kernel_rfl) (by kernel_rfl) (by kernel_rfl) (by kernel_rfl) (fun _ _ _ h => h) (Or.inl ⟨by rfl, ?_⟩) (by assumption) ?_
              · intro wz _; go_simp; try rfl
              try simp only [Act.put, List.getElem_toArray, List.getElem_cons_succ, List.getElem_cons_zero, List.setIfInBounds_toArray, List.set_cons_zero, List.set_cons_succ]
              refine wpStg_pure (i := 20) (v := .pointer (some ⟨xb, 2, none⟩)) rfl (by kernel_rfl) (by kernel_rfl) (by kernel_rfl) (by kernel_rfl) (fun _ _ _ h => h) (Or.inl ⟨by rfl, ?_⟩) (by assumption) ?_
              · intro wz _; go_simp; try rfl
              try simp only [Act.put, List.getElem_toArray, List.getElem_cons_succ, List.getElem_cons_zero, List.setIfInBounds_toArray, List.set_cons_zero, List.set_cons_succ]
              refine wpStg_one (i := 21) (by kernel_rfl) rfl (fun K hK => ?_)
              go_simp
              refine hK.out _ _ ?_ (fun hHeld => ?_)
              · exact .skip (by kernel_rfl) (.skip (by kernel_rfl) .nil)
              clear hK K
              try simp only [Act.put, List.getElem_toArray, List.getElem_cons_succ, List.getElem_cons_zero, List.setIfInBounds_toArray, List.set_cons_zero, List.set_cons_succ]
              refine wpStg_done (by kernel_rfl) ?_ _
              go_upto_region 19 with (go_at_call 130; refine (IH.out m' (by omega) (o ++ [v]) L bb us2 _ _ _ _ _ I1.out I2.out I3.out I4.out I5.out I6.out (O8.out us2)).mono ?_; rintro e w10 ⟨rfl, ov2, cv2, bv2, fv2, hci2⟩; have HC2 := Lib.hid hci2; clear hci2)
              clear hc1y hc2y hf1y hc2z hf2z O8 HCI HOR hc1 hc2
              obtain ⟨b2, hb2⟩ : ∃ b2, b2 = (compP a.length E m' (o ++ [v], L)).foldl better bb := ⟨_, rfl⟩
              rw [← hb2] at HC2 I7
              have hci3 := HC2.out
              obtain ⟨op2, oc2, rfl, hoc2⟩ := owns_capL hci3.ord
              obtain ⟨cp2, cc2, rfl, hcc2⟩ := owns_capL hci3.cod
              have TK2 := TK.out.2.2
              have CUT := Lib.hid ((hci3.cut TK2.1 TK2.2 us).next (below_dN (Below.refl _ _) 1))
              obtain ⟨lo2, hlo2⟩ : ∃ lo2, lo2 = (o ++ [v]).length := ⟨_, rfl⟩
              obtain ⟨lc2, hlc2⟩ : ∃ lc2, lc2 = L.length := ⟨_, rfl⟩
              have hcs := hci3.cs
              rw [← hlo2, ← hlc2] at hcs
              rw [← hlo2] at hoc2
              rw [← hlc2] at hcc2
              have hlo3 := LO.out
              rw [← hlo2] at hlo3
              have hcl3 := TK2.2
              rw [← hlc2] at hcl3
              have hwr : IntKind.i64.wrap ((lo2 : Int) - 1) = (o.length : Int) := by rw [IntKind.wrap_i64]; omega
              have hso : (o.length : Int) ≤ (oc2 : Int) := by omega
              have hsc : (code.length : Int) ≤ (cc2 : Int) := by omega
              have hd1 := hcs.c1
              have hd2 := hcs.c2
              have hd3 := hcs.c3
              have hfd1 := hcs.free 1
              have hd2z := (hcs.s1 (.slice op2 o.length oc2)).c2
              have hfd2 := (hcs.s1 (.slice op2 o.length oc2)).free 2
              have hd3y := (hcs.s1 (.slice op2 o.length oc2)).c3
              have hd3z := ((hcs.s1 (.slice op2 o.length oc2)).s2 (.int .u32 (us : Int))).c3
              have hfd3 := ((hcs.s1 (.slice op2 o.length oc2)).s2 (.int .u32 (us : Int))).free 3
              clear hci3 TK2 hlo2 hlc2 hcs hoc2 hcc2 hlo3 hcl3 HC2 hb2
              refine wp_region_stg [(29, fun w' => w'.cell? ⟨xb, 1, none⟩ = some (.slice op2 lo2 oc2)), (32, fun w' => w'.cell? ⟨xb, 2, none⟩ = some (.int .u32 (us2 : Int))), (35, fun w' => w'.cell? ⟨xb, 3, none⟩ = some (.slice cp2 lc2 cc2))] (by kernel_rfl) ?_ (fun hHeld => ?_)
              · exact .keep hd1 (.keep hd2 (.keep hd3 .nil))
              refine wpStg_pure (i := 0) (v := .pointer (some ⟨xb, 0, none⟩)) rfl (by kernel_rfl) (by kernel_rfl) (by kernel_rfl) (by kernel_rfl) (fun _ _ _ h => h) (Or.inl ⟨by rfl, ?_⟩) (by assumption) ?_
              · intro wz _; go_simp; try rfl
              try simp only [Act.put, List.getElem_toArray, List.getElem_cons_succ, List.getElem_cons_zero, List.setIfInBounds_toArray, List.set_cons_zero, List.set_cons_succ]
              refine wpStg_pure (i := 1) (v := .pointer (some ⟨xb, 0, none⟩)) rfl (by kernel_rfl) (by kernel_rfl) (by kernel_rfl) (by kernel_rfl) (fun _ _ _ h => h) (Or.inl ⟨by rfl, ?_⟩) (by assumption) ?_
              · intro wz _; go_simp; try rfl
              try simp only [Act.put, List.getElem_toArray, List.getElem_cons_succ, List.getElem_cons_zero, List.setIfInBounds_toArray, List.set_cons_zero, List.set_cons_succ]
              refine wpStg_pure (i := 2) (v := .pointer (some ⟨xb, 0, none⟩)) rfl (by kernel_rfl) (by kernel_rfl) (by kernel_rfl) (by kernel_rfl) (fun _ _ _ h => h) (Or.inl ⟨by rfl, ?_⟩) (by assumption) ?_
              · intro wz _; go_simp; try rfl
              try simp only [Act.put, List.getElem_toArray, List.getElem_cons_succ, List.getElem_cons_zero, List.setIfInBounds_toArray, List.set_cons_zero, List.set_cons_succ]
              refine wpStg_pure (i := 3) (v := .pointer (some ⟨xb, 0, none⟩)) rfl (by kernel_rfl) (by kernel_rfl) (by kernel_rfl) (by kernel_rfl) (fun _ _ _ h => h) (Or.inl ⟨by rfl, ?_⟩) (by assumption) ?_
              · intro wz _; go_simp; try rfl
              try simp only [Act.put, List.getElem_toArray, List.getElem_cons_succ, List.getElem_cons_zero, List.setIfInBounds_toArray, List.set_cons_zero, List.set_cons_succ]
              refine wpStg_pure (i := 4) (v := .pointer (some ⟨xb, 0, none⟩)) rfl (by kernel_rfl) (by kernel_rfl) (by kernel_rfl) (by kernel_rfl) (fun _ _ _ h => h) (Or.inl ⟨by rfl, ?_⟩) (by assumption) ?_
              · intro wz _; go_simp; try rfl
              try simp only [Act.put, List.getElem_toArray, List.getElem_cons_succ, List.getElem_cons_zero, List.setIfInBounds_toArray, List.set_cons_zero, List.set_cons_succ]
              refine wpStg_pure (i := 5) (v := .pointer (some ⟨xb, 1, none⟩)) rfl (by kernel_rfl) (by kernel_rfl) (by kernel_rfl) (by kernel_rfl) (fun _ _ _ h => h) (Or.inl ⟨by rfl, ?_⟩) (by assumption) ?_
              · intro wz _; go_simp; try rfl
              try simp only [Act.put, List.getElem_toArray, List.getElem_cons_succ, List.getElem_cons_zero, List.setIfInBounds_toArray, List.set_cons_zero, List.set_cons_succ]
              refine wpStg_take (m := 0) (i := 6) (v := .slice op2 lo2 oc2) rfl rfl (by kernel_rfl) (by kernel_rfl) (by kernel_rfl) (by kernel_rfl) (by kernel_rfl) (by kernel_rfl) (fun _ _ _ h => h) (Or.inl ⟨by rfl, ?_⟩) (by assumption) ?_
              · intro wz hSw; (try dsimp only at hSw); go_simp; try rfl
              try simp only [Act.put, List.getElem_toArray, List.getElem_cons_succ, List.getElem_cons_zero, List.setIfInBounds_toArray, List.set_cons_zero, List.set_cons_succ]
              refine wpStg_pure (i := 7) (v := .pointer (some ⟨xb, 0, none⟩)) rfl (by kernel_rfl) (by kernel_rfl) (by kernel_rfl) (by kernel_rfl) (fun _ _ _ h => h) (Or.inl ⟨by rfl, ?_⟩) (by assumption) ?_
              · intro wz _; go_simp; try rfl
              try simp only [Act.put, List.getElem_toArray, List.getElem_cons_succ, List.getElem_cons_zero, List.setIfInBounds_toArray, List.set_cons_zero, List.set_cons_succ]
              refine wpStg_pure (i := 8) (v := .pointer (some ⟨xb, 0, none⟩)) rfl (by kernel_rfl) (by kernel_rfl) (by kernel_rfl) (by kernel_rfl) (fun _ _ _ h => h) (Or.inl ⟨by rfl, ?_⟩) (by assumption) ?_
              · intro wz _; go_simp; try rfl
              try simp only [Act.put, List.getElem_toArray, List.getElem_cons_succ, List.getElem_cons_zero, List.setIfInBounds_toArray, List.set_cons_zero, List.set_cons_succ]
              refine wpStg_pure (i := 9) (v := .pointer (some ⟨xb, 1, none⟩)) rfl (by kernel_rfl) (by kernel_rfl) (by kernel_rfl) (by kernel_rfl) (fun _ _ _ h => h) (Or.inl ⟨by rfl, ?_⟩) (by assumption) ?_
              · intro wz _; go_simp; try rfl
              try simp only [Act.put, List.getElem_toArray, List.getElem_cons_succ, List.getElem_cons_zero, List.setIfInBounds_toArray, List.set_cons_zero, List.set_cons_succ]
              refine wpStg_take (m := 0) (i := 10) (v := .slice op2 lo2 oc2) rfl rfl (by kernel_rfl) (by kernel_rfl) (by kernel_rfl) (by kernel_rfl) (by kernel_rfl) (by kernel_rfl) (fun _ _ _ h => h) (Or.inl ⟨by rfl, ?_⟩) (by assumption) ?_
              · intro wz hSw; (try dsimp only at hSw); go_simp; try rfl
              try simp only [Act.put, List.getElem_toArray, List.getElem_cons_succ, List.getElem_cons_zero, List.setIfInBounds_toArray, List.set_cons_zero, List.set_cons_succ]
              refine wpStg_pure (i := 11) (v := .int .i64 lo2) rfl (by kernel_rfl) (by kernel_rfl) (by kernel_rfl) (by kernel_rfl) (fun _ _ _ h => h) (Or.inl ⟨by rfl, ?_⟩) (by assumption) ?_
              · intro wz _; go_simp; try rfl
              try simp only [Act.put, List.getElem_toArray, List.getElem_cons_succ, List.getElem_cons_zero, List.setIfInBounds_toArray, List.set_cons_zero, List.set_cons_succ]
              refine wpStg_pure (i := 12) (v := .int .i64 (o.length : Int)) rfl (by kernel_rfl) (by kernel_rfl) (by kernel_rfl) (by kernel_rfl) (fun _ _ _ h => h) (Or.inl ⟨by rfl, ?_⟩) (by assumption) ?_
              · intro wz _; go_simp; try rfl
              try simp only [Act.put, List.getElem_toArray, List.getElem_cons_succ, List.getElem_cons_zero, List.setIfInBounds_toArray, List.set_cons_zero, List.set_cons_succ]
              refine wpStg_pure (i := 13) (v := .slice op2 o.length oc2) rfl (by kernel_rfl) (by kernel_rfl) (by kernel_rfl) (by kernel_rfl) (fun _ _ _ h => h) (Or.inl ⟨by rfl, ?_⟩) (by assumption) ?_
              · intro wz _; go_simp; try rfl
              try simp only [Act.put, List.getElem_toArray, List.getElem_cons_succ, List.getElem_cons_zero, List.setIfInBounds_toArray, List.set_cons_zero, List.set_cons_succ]
              refine wpStg_pure (i := 14) (v := .pointer (some ⟨xb, 0, none⟩)) rfl (by kernel_rfl) (by kernel_rfl) (by kernel_rfl) (by kernel_rfl) (fun _ _ _ h => h) (Or.inl ⟨by rfl, ?_⟩) (by assumption) ?_
              · intro wz _; go_simp; try rfl
              try simp only [Act.put, List.getElem_toArray, List.getElem_cons_succ, List.getElem_cons_zero, List.setIfInBounds_toArray, List.set_cons_zero, List.set_cons_succ]
              refine wpStg_pure (i := 15) (v := .pointer (some ⟨xb, 0, none⟩)) rfl (by kernel_rfl) (by kernel_rfl) (by kernel_rfl) (by kernel_rfl) (fun _ _ _ h => h) (Or.inl ⟨by rfl, ?_⟩) (by assumption) ?_
              · intro wz _; go_simp; try rfl
              try simp only [Act.put, List.getElem_toArray, List.getElem_cons_succ, List.getElem_cons_zero, List.setIfInBounds_toArray, List.set_cons_zero, List.set_cons_succ]
              refine wpStg_pure (i := 16) (v := .pointer (some ⟨xb, 2, none⟩)) rfl (by kernel_rfl) (by kernel_rfl) (by kernel_rfl) (by kernel_rfl) (fun _ _ _ h => h) (Or.inl ⟨by rfl, ?_⟩) (by assumption) ?_
              · intro wz _; go_simp; try rfl
              try simp only [Act.put, List.getElem_toArray, List.getElem_cons_succ, List.getElem_cons_zero, List.setIfInBounds_toArray, List.set_cons_zero, List.set_cons_succ]
              refine wpStg_take (m := 1) (i := 17) (v := .int .u32 (us2 : Int)) rfl rfl (by kernel_rfl) (by kernel_rfl) (by kernel_rfl) (by kernel_rfl) (by kernel_rfl) (by kernel_rfl) (fun _ _ _ h => h) (Or.inl ⟨by rfl, ?_⟩) (by assumption) ?_
              · intro wz hSw; (try dsimp only at hSw); go_simp; try rfl
              try simp only [Act.put, List.getElem_toArray, List.getElem_cons_succ, List.getElem_cons_zero, List.setIfInBounds_toArray, List.set_cons_zero, List.set_cons_succ]
              refine wpStg_pure (i := 18) (v := .int .i64 (v : Int)) rfl (by kernel_rfl) (by kernel_rfl) (by kernel_rfl) (by kernel_rfl) (fun _ _ _ h => h) (Or.inl ⟨by rfl, ?_⟩) (by assumption) ?_
              · intro wz _; go_simp; try rfl
              try simp only [Act.put, List.getElem_toArray, List.getElem_cons_succ, List.getElem_cons_zero, List.setIfInBounds_toArray, List.set_cons_zero, List.set_cons_succ]
              refine wpStg_pure (i := 21) (v := .pointer (some ⟨xb, 0, none⟩)) rfl (by kernel_rfl) (by kernel_rfl) (by kernel_rfl) (by kernel_rfl) (fun _ _ _ h => h) (Or.inl ⟨by rfl, ?_⟩) (by assumption) ?_
              · intro wz _; go_simp; try rfl
              try simp only [Act.put, List.getElem_toArray, List.getElem_cons_succ, List.getElem_cons_zero, List.setIfInBounds_toArray, List.set_cons_zero, List.set_cons_succ]
              refine wpStg_pure (i := 22) (v := .pointer (some ⟨xb, 0, none⟩)) rfl (by kernel_rfl) (by kernel_rfl) (by kernel_rfl) (by kernel_rfl) (fun _ _ _ h => h) (Or.inl ⟨by rfl, ?_⟩) (by assumption) ?_
              · intro wz _; go_simp; try rfl
              try simp only [Act.put, List.getElem_toArray, List.getElem_cons_succ, List.getElem_cons_zero, List.setIfInBounds_toArray, List.set_cons_zero, List.set_cons_succ]
              refine wpStg_pure (i := 23) (v := .pointer (some ⟨xb, 3, none⟩)) rfl (by kernel_rfl) (by kernel_rfl) (by kernel_rfl) (by kernel_rfl) (fun _ _ _ h => h) (Or.inl ⟨by rfl, ?_⟩) (by assumption) ?_
              · intro wz _; go_simp; try rfl
              try simp only [Act.put, List.getElem_toArray, List.getElem_cons_succ, List.getElem_cons_zero, List.setIfInBounds_toArray, List.set_cons_zero, List.set_cons_succ]
              refine wpStg_take (m := 2) (i := 24) (v := .slice cp2 lc2 cc2) rfl rfl (by kernel_rfl) (by kernel_rfl) (by kernel_rfl) (by kernel_rfl) (by kernel_rfl) (by kernel_rfl) (fun _ _ _ h => h) (Or.inl ⟨by rfl, ?_⟩) (by assumption) ?_
              · intro wz hSw; (try dsimp only at hSw); go_simp; try rfl
              try simp only [Act.put, List.getElem_toArray, List.getElem_cons_succ, List.getElem_cons_zero, List.setIfInBounds_toArray, List.set_cons_zero, List.set_cons_succ]
              refine wpStg_pure (i := 25) (v := .int .i64 (code.length : Int)) rfl (by kernel_rfl) (by kernel_rfl) (by kernel_rfl) (by kernel_rfl) (fun _ _ _ h => h) (Or.inl ⟨by rfl, ?_⟩) (by assumption) ?_
              · intro wz _; go_simp; try rfl
              try simp only [Act.put, List.getElem_toArray, List.getElem_cons_succ, List.getElem_cons_zero, List.setIfInBounds_toArray, List.set_cons_zero, List.set_cons_succ]
              refine wpStg_pure (i := 26) (v := .slice cp2 code.length cc2) rfl (by kernel_rfl) (by kernel_rfl) (by kernel_rfl) (by kernel_rfl) (fun _ _ _ h => h) (Or.inl ⟨by rfl, ?_⟩) (by assumption) ?_
              · intro wz _; go_simp; try rfl
              try simp only [Act.put, List.getElem_toArray, List.getElem_cons_succ, List.getElem_cons_zero, List.setIfInBounds_toArray, List.set_cons_zero, List.set_cons_succ]
              refine wpStg_one (i := 19) (by kernel_rfl) rfl (fun K hK => ?_)
              go_simp
              go_at_call 156
              refine (ONE.out _).mono ?_
              rintro e w9 ⟨rfl, rfl⟩
              refine hK.out _ _ ?_ (fun hHeld => ?_)
              · exact .keep hd1 (.keep hd2 (.keep hd3 .nil))
              clear hK K
              try simp only [Act.put, List.getElem_toArray, List.getElem_cons_succ, List.getElem_cons_zero, List.setIfInBounds_toArray, List.set_cons_zero, List.set_cons_succ]
              refine wpStg_pure (i := 20) (v := .int .u32 (us : Int)) rfl (by kernel_rfl) (by kernel_rfl) (by kernel_rfl) (by kernel_rfl) (fun _ _ _ h => h) (Or.inl ⟨by rfl, ?_⟩) (by assumption) ?_
              · intro wz _; go_simp; try rfl
              try simp only [Act.put, List.getElem_toArray, List.getElem_cons_succ, List.getElem_cons_zero, List.setIfInBounds_toArray, List.set_cons_zero, List.set_cons_succ]
              refine wpStg_pure (i := 27) (v := .pointer (some ⟨xb, 0, none⟩)) rfl (by kernel_rfl) (by kernel_rfl) (by kernel_rfl) (by kernel_rfl) (fun _ _ _ h => h) (Or.inl ⟨by rfl, ?_⟩) (by assumption) ?_
              · intro wz _; go_simp; try rfl
              try simp only [Act.put, List.getElem_toArray, List.getElem_cons_succ, List.getElem_cons_zero, List.setIfInBounds_toArray, List.set_cons_zero, List.set_cons_succ]
              refine wpStg_pure (i := 28) (v := .pointer (some ⟨xb, 1, none⟩)) rfl (by kernel_rfl) (by kernel_rfl) (by kernel_rfl) (by kernel_rfl) (fun _ _ _ h => h) (Or.inl ⟨by rfl, ?_⟩) (by assumption) ?_
              · intro wz _; go_simp; try rfl
              try simp only [Act.put, List.getElem_toArray, List.getElem_cons_succ, List.getElem_cons_zero, List.setIfInBounds_toArray, List.set_cons_zero, List.set_cons_succ]
              refine wpStg_one (i := 29) (by kernel_rfl) rfl (fun K hK => ?_)
              go_simp
              refine hK.out _ _ ?_ (fun hHeld => ?_)
              · exact .skip (by kernel_rfl) (.keep hd2z (.keep hd3y .nil))
              clear hK K
              try simp only [Act.put, List.getElem_toArray, List.getElem_cons_succ, List.getElem_cons_zero, List.setIfInBounds_toArray, List.set_cons_zero, List.set_cons_succ]
              refine wpStg_pure (i := 30) (v := .pointer (some ⟨xb, 0, none⟩)) rfl (by kernel_rfl) (by kernel_rfl) (by kernel_rfl) (by kernel_rfl) (fun _ _ _ h => h) (Or.inl ⟨by rfl, ?_⟩) (by assumption) ?_
              · intro wz _; go_simp; try rfl
              try simp only [Act.put, List.getElem_toArray, List.getElem_cons_succ, List.getElem_cons_zero, List.setIfInBounds_toArray, List.set_cons_zero, List.set_cons_succ]
              refine wpStg_pure (i := 31) (v := .pointer (some ⟨xb, 2, none⟩)) rfl (by kernel_rfl) (by kernel_rfl) (by kernel_rfl) (by kernel_rfl) (fun _ _ _ h => h) (Or.inl ⟨by rfl, ?_⟩) (by assumption) ?_
              · intro wz _; go_simp; try rfl
              try simp only [Act.put, List.getElem_toArray, List.getElem_cons_succ, List.getElem_cons_zero, List.setIfInBounds_toArray, List.set_cons_zero, List.set_cons_succ]
              refine wpStg_one (i := 32) (by kernel_rfl) rfl (fun K hK => ?_)
              go_simp
              refine hK.out _ _ ?_ (fun hHeld => ?_)
              · exact .skip (by kernel_rfl) (.skip (by kernel_rfl) (.keep hd3z .nil))
              clear hK K
              try simp only [Act.put, List.getElem_toArray, List.getElem_cons_succ, List.getElem_cons_zero, List.setIfInBounds_toArray, List.set_cons_zero, List.set_cons_succ]
              refine wpStg_pure (i := 33) (v := .pointer (some ⟨xb, 0, none⟩)) rfl (by kernel_rfl) (by kernel_rfl) (by kernel_rfl) (by kernel_rfl) (fun _ _ _ h => h) (Or.inl ⟨by rfl, ?_⟩) (by assumption) ?_
              · intro wz _; go_simp; try rfl
              try simp only [Act.put, List.getElem_toArray, List.getElem_cons_succ, List.getElem_cons_zero, List.setIfInBounds_toArray, List.set_cons_zero, List.set_cons_succ]
              refine wpStg_pure (i := 34) (v := .pointer (some ⟨xb, 3, none⟩)) rfl (by kernel_rfl) (by kernel_rfl) (by kernel_rfl) (by kernel_rfl) (fun _ _ _ h => h) (Or.inl ⟨by rfl, ?_⟩) (by assumption) ?_
              · intro wz _; go_simp; try rfl
              try simp only [Act.put, List.getElem_toArray, List.getElem_cons_succ, List.getElem_cons_zero, List.setIfInBounds_toArray, List.set_cons_zero, List.set_cons_succ]
              refine wpStg_one (i := 35) (by kernel_rfl) rfl (fun K hK => ?_)
              go_simp
              refine hK.out _ _ ?_ (fun hHeld => ?_)
              · exact .skip (by kernel_rfl) (.skip (by kernel_rfl) (.skip (by kernel_rfl) .nil))
              clear hK K
              try simp only [Act.put, List.getElem_toArray, List.getElem_cons_succ, List.getElem_cons_zero, List.setIfInBounds_toArray, List.set_cons_zero, List.set_cons_succ]
              refine wpStg_done (by kernel_rfl) ?_ _
              go_wp2_with fail
              go_roundw
              case rel => exact ⟨v + 1, b2, _, _, _, _, by omega, by go_num, Lib.hid I7.out, by have := CUT.out; rw [TK.out.1, TK.out.2.1] at this; exact this⟩
              case measure => simp [intOf]; omega
      · obtain rfl : v = a.length := by omega
        have HCI := Lib.hid hci
        clear hci
        go_wp2_with fail
        go_end0
        exact ⟨rfl, ov, cv, bv, fv, by rw [← kidsTo_end, ← HBB.out]; exact HCI.out⟩

end Go.Proofs.YtkppbmfliejnmaaDoor
