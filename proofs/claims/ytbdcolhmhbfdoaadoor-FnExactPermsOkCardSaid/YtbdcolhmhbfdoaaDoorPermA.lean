/- Walks: lines, places and crossings, of the reference. -/
import Derived.Test.YtbdcolhmhbfdoaaDoorPermP
import Derived.Test.YtbdcolhmhbfdoaaDoorSpecA
import Derived.Deep.RegionHeld3
import Derived.Deep.DeepCutAuto
import Derived.Deep.RegionLaw
namespace Go.Proofs.YtbdcolhmhbfdoaaDoor
open Go.RowKit

set_option maxRecDepth 100000 in
set_option maxHeartbeats 400000 in
theorem l15Place_any (v : Value) (xs : List Int) (n : Int) (w : World) (hx : Nums w 2 .i64 v xs) :
    Calls Tryd.prog 85 #[v, .int .i64 n] w fun e w' => e = .returned (.int .i64 (plc xs n)) ∧ w = w' := by
  obtain ⟨p, c, rfl, _, _, hn, hat⟩ := hx
  go_enter Tryd.func85, Tryd.ntmps85
  go_wp2
  go_loop [5] (fun i => ∃ k : Nat, k ≤ xs.length ∧ i = .int .i64 k ∧ n ∉ xs.take k) (fun i => xs.length - (intOf i).toNat)
  case atStart => exact ⟨0, Nat.zero_le _, rfl, by simp⟩
  case round =>
    obtain ⟨k, hk, rfl, hnk⟩ := hrel
    by_cases hlt : k < xs.length
    · obtain ⟨b, o, rfl, hcell⟩ := hat.num hlt
      clear hat
      by_cases he : xs[k] = n
      · have he' : (xs[k] == n) = true := by simpa using he
        have H := Lib.hid he
        have HN := Lib.hid hnk
        clear he hnk
        go_wp2
        go_ret
        exact ⟨ret_int (plc_first hlt H.out HN.out).symm, rfl⟩
      · have he' : (xs[k] == n) = false := by simpa using he
        go_wp2
        go_round
        case rel => exact ⟨k + 1, by omega, by go_num, not_mem_take_succ hlt hnk he⟩
        case measure => simp [intOf]; omega
    · obtain rfl : k = xs.length := by omega
      have HN := Lib.hid hnk
      clear hnk
      go_wp2
      go_ret
      have hnk := HN.out
      rw [List.take_length] at hnk
      exact ⟨ret_int (plc_out hnk).symm, rfl⟩

set_option maxRecDepth 100000 in
set_option maxHeartbeats 1000000 in
theorem l15Cross_any (av bv : Value) (a b : List Int) (x y : Int) (w : World) (ha : Nums w 2 .i64 av a) (hb : Nums w 2 .i64 bv b) :
    Calls Tryd.prog 56 #[av, bv, .int .i64 x, .int .i64 y] w fun e w' => e = .returned (.bool (crE a b x y)) ∧ w = w' := by
  obtain ⟨ap, ac, rfl, _⟩ := id ha.shape
  obtain ⟨bp, bc, rfl, _⟩ := id hb.shape
  by_cases h : x = y
  · have h' : (x != y) = false := by simpa using h
    have H := Lib.hid h
    clear h
    go_enter Tryd.func56, Tryd.ntmps56
    go_wp2
    go_ret
    exact ⟨ret_bool (by unfold crE; simp [H.out]), rfl⟩
  · have h' : (x != y) = true := by simpa using h
    have H := Lib.hid h
    clear h
    go_enter Tryd.func56, Tryd.ntmps56
    go_wp2_with (go_at_call 85; refine (l15Place_any _ _ _ _ (by first | exact ha | exact hb)).mono ?_; rintro e w1 ⟨rfl, rfl⟩)
    go_ret
    exact ⟨ret_bool (by
      unfold crE
      have : decide (x ≠ y) = true := by simpa using H.out
      rw [this, Bool.true_and]
      cases decide (plc a x < plc a y) <;> cases decide (plc b x < plc b y) <;> rfl), rfl⟩

set_option maxRecDepth 100000 in
set_option maxHeartbeats 4000000 in
theorem l15Line_any (v : Value) (l : List Int) (w : World) (hn : Nums w 2 .i64 v l) :
    Calls Tryd.prog 84 #[v] w fun e w' => e = .returned (.bool (dec (LineOk l))) ∧ Below w.heap.size w w' := by
  obtain ⟨lp, lc, rfl, _, hlc, hll, _⟩ := id hn.shape
  have HN := Lib.hid hn
  clear hn
  by_cases hlen : 1 ≤ (l.length : Int) ∧ (l.length : Int) ≤ 16
  case neg =>
    have hd := dec_false hlen
    have Hlen := Lib.hid hlen
    clear hlen
    go_enter Tryd.func84, Tryd.ntmps84
    go_wp2_with (go_at_call 55; refine (l1In_any _ _ _ _).mono ?_; rintro e w2 ⟨rfl, rfl⟩)
    go_ret
    exact ⟨ret_bool (false_dec fun h => Hlen.out ⟨by have := h.1; omega, by have := h.2.1; omega⟩), Below.refl _ _⟩
  have hd0 := dec_true hlen
  have Hlen := Lib.hid hlen
  clear hlen
  go_enter Tryd.func84, Tryd.ntmps84
  go_wp2_with (go_at_call 55; refine (l1In_any _ _ _ _).mono ?_; rintro e w2 ⟨rfl, rfl⟩)
  go_loopw [3] (fun i wr => ∃ k : Nat, k ≤ l.length ∧ i = .int .i64 k ∧ (∀ x ∈ l.take k, 0 ≤ x ∧ x < l.length) ∧ (l.take k).Nodup ∧ Below w.heap.size w wr) (fun i _ => l.length - (intOf i).toNat)
  case atStart => exact ⟨0, Nat.zero_le _, rfl, by simp, by simp, Below.refl _ _⟩
  case round =>
    clear hd0
    obtain ⟨k, hk, rfl, hin, hnd, hbel⟩ := hrel
    have Hin := Lib.hid hin
    have Hnd := Lib.hid hnd
    clear hin hnd
    by_cases hlt : k < l.length
    · have hn' := Lib.hid (HN.out.below hbel)
      obtain ⟨b, o, rfl, hc⟩ := hn'.out.get hlt
      have hpre : Hid (Nums wr 2 .i64 (.slice (some ⟨b, o, none⟩) k lc) (l.take k)) := by
        obtain ⟨_, _, e1, _, _, _, hat⟩ := id hn'.out.shape
        cases e1
        have hlk : (l.take k).length = k := by rw [List.length_take]; omega
        refine Lib.hid ⟨_, _, by rw [hlk], (fun e => by cases e), by omega, by omega, ?_⟩
        rw [List.map_take]
        exact hat.take k
      have hx := Lib.hid (take_snoc l k hlt)
      have e0 : (0 : Int) ≤ (k : Int) := by omega
      have e1 : (k : Int) ≤ (lc : Int) := by omega
      have e2 : k ≤ lc := by omega
      have HBel := Lib.hid hbel
      clear hbel
      have hmem : Hid (l[k] ∈ l) := Lib.hid (List.getElem_mem hlt)
      have hnp : Hid (l[k] ∈ l.take k → ¬ l.Nodup) := Lib.hid (fun hX2 h => by
        have h1 : (l.take (k + 1)).Nodup := h.sublist (List.take_sublist _ _)
        rw [hx.out] at h1
        exact (nodup_snoc.1 h1).2 hX2)
      generalize hX : l[k] = X at hc hx hmem hnp
      clear hX
      have hwr : IntKind.i64.wrap ((l.length : Int) - 1) = (l.length : Int) - 1 := by rw [IntKind.wrap_i64]; omega
      by_cases hX1 : 0 ≤ X ∧ X ≤ (l.length : Int) - 1
      case neg =>
        have hd := dec_false hX1
        have HX1 := Lib.hid hX1
        clear hX1
        go_upto_region 6 with fail
        go_cut [32] (fun s wx => s = .bool true ∧ Below wr.heap.size wr wx)
        case first =>
          refine wp_region_held_drew (S := fun w' => w'.cell? ⟨b, o + k, none⟩ = some (.int .i64 X)) (by kernel_rfl) ?_ (fun hHeld => ?_)
          · exact hc
          refine wpAnyH_take (i := 0) (v := .slice (some ⟨b, o, none⟩) l.length lc) rfl (by kernel_rfl) (by kernel_rfl) (by kernel_rfl) (fun _ _ _ h => h) (Or.inl ⟨by rfl, ?_⟩) (by assumption) ?_
          · intro wz hSw; (try dsimp only at hSw); go_simp; try rfl
          try simp only [Act.put, List.setIfInBounds_toArray, List.set_cons_zero, List.set_cons_succ]
          refine wpAnyH_take (i := 1) (v := .int .i64 k) rfl (by kernel_rfl) (by kernel_rfl) (by kernel_rfl) (fun _ _ _ h => h) (Or.inl ⟨by rfl, ?_⟩) (by assumption) ?_
          · intro wz hSw; (try dsimp only at hSw); go_simp; try rfl
          try simp only [Act.put, List.setIfInBounds_toArray, List.set_cons_zero, List.set_cons_succ]
          refine wpAnyH_take (i := 2) (v := .pointer (some ⟨b, o + k, none⟩)) rfl (by kernel_rfl) (by kernel_rfl) (by kernel_rfl) (fun _ _ _ h => h) (Or.inl ⟨by rfl, ?_⟩) (by assumption) ?_
          · intro wz hSw; (try dsimp only at hSw); go_simp; try rfl
          try simp only [Act.put, List.setIfInBounds_toArray, List.set_cons_zero, List.set_cons_succ]
          refine wpAnyH_take (i := 3) (v := .int .i64 X) rfl (by kernel_rfl) (by kernel_rfl) (by kernel_rfl) (fun _ _ _ h => h) (Or.inl ⟨by rfl, ?_⟩) (by assumption) ?_
          · intro wz hSw; (try dsimp only at hSw); go_simp; try rfl
          try simp only [Act.put, List.setIfInBounds_toArray, List.set_cons_zero, List.set_cons_succ]
          refine wpAnyH_take (i := 4) (v := .slice (some ⟨b, o, none⟩) l.length lc) rfl (by kernel_rfl) (by kernel_rfl) (by kernel_rfl) (fun _ _ _ h => h) (Or.inl ⟨by rfl, ?_⟩) (by assumption) ?_
          · intro wz hSw; (try dsimp only at hSw); go_simp; try rfl
          try simp only [Act.put, List.setIfInBounds_toArray, List.set_cons_zero, List.set_cons_succ]
          refine wpAnyH_take (i := 5) (v := .int .i64 l.length) rfl (by kernel_rfl) (by kernel_rfl) (by kernel_rfl) (fun _ _ _ h => h) (Or.inl ⟨by rfl, ?_⟩) (by assumption) ?_
          · intro wz hSw; (try dsimp only at hSw); go_simp; try rfl
          try simp only [Act.put, List.setIfInBounds_toArray, List.set_cons_zero, List.set_cons_succ]
          refine wpAnyH_take (i := 6) (v := .int .i64 ((l.length : Int) - 1)) rfl (by kernel_rfl) (by kernel_rfl) (by kernel_rfl) (fun _ _ _ h => h) (Or.inl ⟨by rfl, ?_⟩) (by assumption) ?_
          · intro wz hSw; (try dsimp only at hSw); go_simp; try rfl
          try simp only [Act.put, List.setIfInBounds_toArray, List.set_cons_zero, List.set_cons_succ]
          refine wpAnyH_ready (rs := [7]) (by kernel_rfl) (by simp) ?_
          refine AllReadyH.cons rfl (fun K hK => ?_) AllReadyH.nil
          go_simp
          go_at_call 55
          refine (l1In_any X 0 ((l.length : Int) - 1) _).mono ?_
          rintro e w4 ⟨he4, hw4⟩
          rw [hd] at he4
          subst he4
          have hb4' : Below wr.heap.size wr w4 := hw4 ▸ below_dN (Below.refl _ _) 1
          refine hK.out _ _ ?_ (fun hHeld => ?_)
          · exact hb4'.at' hc
          clear hK K
          try simp only [Act.put, List.setIfInBounds_toArray, List.set_cons_zero, List.set_cons_succ]
          refine wpAnyH_take (i := 8) (v := .bool true) rfl (by kernel_rfl) (by kernel_rfl) (by kernel_rfl) (fun _ _ _ h => h) (Or.inl ⟨by rfl, ?_⟩) (by assumption) ?_
          · intro wz hSw; (try dsimp only at hSw); go_simp; try rfl
          try simp only [Act.put, List.setIfInBounds_toArray, List.set_cons_zero, List.set_cons_succ]
          refine wpAnyH_take (i := 9) (v := .bool true) rfl (by kernel_rfl) (by kernel_rfl) (by kernel_rfl) (fun _ _ _ h => h) (Or.inl ⟨by rfl, ?_⟩) (by assumption) ?_
          · intro wz hSw; (try dsimp only at hSw); go_simp; try rfl
          try simp only [Act.put, List.setIfInBounds_toArray, List.set_cons_zero, List.set_cons_succ]
          refine wpAnyH_take (i := 10) (v := undef) rfl (by kernel_rfl) (by kernel_rfl) (by kernel_rfl) (fun _ _ _ h => h) (Or.inr ⟨by kernel_rfl, rfl⟩) (by assumption) ?_
          try simp only [Act.put, List.setIfInBounds_toArray, List.set_cons_zero, List.set_cons_succ]
          refine wpAnyH_take (i := 11) (v := undef) rfl (by kernel_rfl) (by kernel_rfl) (by kernel_rfl) (fun _ _ _ h => h) (Or.inr ⟨by kernel_rfl, rfl⟩) (by assumption) ?_
          try simp only [Act.put, List.setIfInBounds_toArray, List.set_cons_zero, List.set_cons_succ]
          refine wpAnyH_take (i := 12) (v := undef) rfl (by kernel_rfl) (by kernel_rfl) (by kernel_rfl) (fun _ _ _ h => h) (Or.inr ⟨by kernel_rfl, rfl⟩) (by assumption) ?_
          try simp only [Act.put, List.setIfInBounds_toArray, List.set_cons_zero, List.set_cons_succ]
          refine wpAnyH_take (i := 13) (v := undef) rfl (by kernel_rfl) (by kernel_rfl) (by kernel_rfl) (fun _ _ _ h => h) (Or.inr ⟨by kernel_rfl, rfl⟩) (by assumption) ?_
          try simp only [Act.put, List.setIfInBounds_toArray, List.set_cons_zero, List.set_cons_succ]
          refine wpAnyH_take (i := 14) (v := undef) rfl (by kernel_rfl) (by kernel_rfl) (by kernel_rfl) (fun _ _ _ h => h) (Or.inr ⟨by kernel_rfl, rfl⟩) (by assumption) ?_
          try simp only [Act.put, List.setIfInBounds_toArray, List.set_cons_zero, List.set_cons_succ]
          refine wpAnyH_take (i := 15) (v := undef) rfl (by kernel_rfl) (by kernel_rfl) (by kernel_rfl) (fun _ _ _ h => h) (Or.inr ⟨by kernel_rfl, rfl⟩) (by assumption) ?_
          try simp only [Act.put, List.setIfInBounds_toArray, List.set_cons_zero, List.set_cons_succ]
          refine wpAnyH_take (i := 16) (v := undef) rfl (by kernel_rfl) (by kernel_rfl) (by kernel_rfl) (fun _ _ _ h => h) (Or.inr ⟨by kernel_rfl, rfl⟩) (by assumption) ?_
          try simp only [Act.put, List.setIfInBounds_toArray, List.set_cons_zero, List.set_cons_succ]
          refine wpAnyH_take (i := 17) (v := undef) rfl (by kernel_rfl) (by kernel_rfl) (by kernel_rfl) (fun _ _ _ h => h) (Or.inr ⟨by kernel_rfl, rfl⟩) (by assumption) ?_
          try simp only [Act.put, List.setIfInBounds_toArray, List.set_cons_zero, List.set_cons_succ]
          simp only [Act.put, List.getElem_toArray, List.getElem_cons_succ, List.getElem_cons_zero, List.setIfInBounds_toArray, List.set_cons_zero, List.set_cons_succ]
          refine wpAnyH_take (i := 18) (v := .bool true) rfl (by kernel_rfl) (by kernel_rfl) (by kernel_rfl) (fun _ _ _ h => h) (Or.inl ⟨by rfl, ?_⟩) (by assumption) ?_
          · intro wz hSw; (try dsimp only at hSw); go_simp; try rfl
          simp only [Act.put, List.getElem_toArray, List.getElem_cons_succ, List.getElem_cons_zero, List.setIfInBounds_toArray, List.set_cons_zero, List.set_cons_succ]
          refine wpAnyH_done (by kernel_rfl) ?_ _
          go_wp2
          go_meet
          exact ⟨by kernel_rfl, hb4'⟩
        case rest =>
          obtain ⟨rfl, hbc⟩ := hcut
          go_wp2
          go_ret
          exact ⟨ret_bool (false_dec fun h => HX1.out (by have := h.2.2.2.1 _ hmem.out; omega)), HBel.out.trans (hbc.mono HBel.out.size)⟩
      have hd := dec_true hX1
      have HX1 := Lib.hid hX1
      clear hX1
      by_cases hX2 : X ∈ l.take k
      case pos =>
        have hd2 := dec_true hX2
        have hnot := Lib.hid (hnp.out hX2)
        clear hX2
        go_upto_region 6 with fail
        go_cut [32] (fun s wx => s = .bool true ∧ Below wr.heap.size wr wx)
        case first =>
          go_region_held3 (fun w' => w'.cell? ⟨b, o + k, none⟩ = some (.int .i64 X))
            (first | go_keep | exact hb4'.at' hc)
            (first | (go_at_call 55; refine (l1In_any X 0 ((l.length : Int) - 1) _).mono ?_; rintro e w4 ⟨he4, hw4⟩; rw [hd] at he4; subst he4; have hb4' : Below wr.heap.size wr w4 := hw4 ▸ below_dN (Below.refl _ _) 1; clear hw4) | (go_at_call 91; refine (l1Has_any _ _ X _ (hpre.out.below hb4')).mono ?_; rintro e w5 ⟨he5, rfl⟩; rw [hd2] at he5; subst he5))
          all_goals go_wp2
          all_goals go_meet
          all_goals exact ⟨rfl, hb4'⟩
        case rest =>
          obtain ⟨rfl, hbc⟩ := hcut
          go_wp2
          go_ret
          exact ⟨ret_bool (false_dec fun h => hnot.out h.2.2.2.2), HBel.out.trans (hbc.mono HBel.out.size)⟩
      case neg =>
        have hd2 := dec_false hX2
        have HX2 := Lib.hid hX2
        clear hX2
        go_upto_region 6 with fail
        go_cut [32] (fun s wx => s = .bool false ∧ Below wr.heap.size wr wx)
        case first =>
          go_region_held3 (fun w' => w'.cell? ⟨b, o + k, none⟩ = some (.int .i64 X))
            (first | go_keep | exact hb4'.at' hc)
            (first | (go_at_call 55; refine (l1In_any X 0 ((l.length : Int) - 1) _).mono ?_; rintro e w4 ⟨he4, hw4⟩; rw [hd] at he4; subst he4; have hb4' : Below wr.heap.size wr w4 := hw4 ▸ below_dN (Below.refl _ _) 1; clear hw4) | (go_at_call 91; refine (l1Has_any _ _ X _ (hpre.out.below hb4')).mono ?_; rintro e w5 ⟨he5, rfl⟩; rw [hd2] at he5; subst he5))
          all_goals go_wp2
          all_goals go_meet
          all_goals exact ⟨rfl, hb4'⟩
        case rest =>
          obtain ⟨rfl, hbc⟩ := hcut
          go_wp2
          go_roundw
          case rel =>
            have hbel' := HBel.out
            refine ⟨k + 1, by omega, by go_num, ?_, ?_, hbel'.trans (hbc.mono hbel'.size)⟩
            · rw [hx.out]
              intro x hxm
              rcases List.mem_append.1 hxm with h | h
              · exact Hin.out x h
              · simp only [List.mem_singleton] at h; subst h; have := HX1.out; omega
            · rw [hx.out]
              exact nodup_snoc.2 ⟨Hnd.out, HX2.out⟩
          case measure => simp [intOf]; omega
    · obtain rfl : k = l.length := by omega
      go_wp2
      go_ret
      have h1 := Hin.out
      have h2 := Hnd.out
      rw [List.take_length] at h1 h2
      exact ⟨ret_bool (true_dec ⟨by have := Hlen.out; omega, by have := Hlen.out; omega, rfl, h1, h2⟩), hbel⟩

end Go.Proofs.YtbdcolhmhbfdoaaDoor
