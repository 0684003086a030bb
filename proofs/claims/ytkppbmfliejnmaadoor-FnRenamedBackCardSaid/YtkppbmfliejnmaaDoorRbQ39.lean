/- Walks: orders of all vertices, of both; a row of numbers narrowed. -/
import Derived.Test.YtkppbmfliejnmaaDoorRbQ38
import Derived.Deep.RegionHeld3
import Derived.Deep.DeepCutAuto
import Derived.Deep.RegionLaw
namespace Go.Proofs.YtkppbmfliejnmaaDoor
open Go.RowKit

set_option maxRecDepth 100000 in
set_option maxHeartbeats 1000000 in
theorem narrow_any (v : Value) (xs : List Int) (w : World) (hx : Nums w 2 .i64 v xs) :
    Calls Tryd.prog 117 #[v] w fun e w' => ∃ u, e = .returned u ∧
      w'.ownsRow w.heap.size 3 1 u xs.length (xs.map (Value.int .i64)) ∧ Below w.heap.size w w' := by
  obtain ⟨p, c, rfl, _, _, hn, hat⟩ := hx
  go_enter Tryd.func117, Tryd.ntmps117
  go_wp2_with (at_make; refine wpList_mk0 ty_int rfl rfl xs.length rfl rfl rfl hn ?_; intro w1 hown1 hg1)
  have hb1 := grown_below hg1
  clear hg1
  go_loopw [3, 5, 11] (fun u _ i wr => ∃ k : Nat, k ≤ xs.length ∧ i = .int .i64 k ∧ wr.ownsRow w.heap.size 3 1 u k ((xs.take k).map (Value.int .i64)) ∧ Below w.heap.size w wr)
    (fun _ _ i _ => xs.length - (intOf i).toNat)
  case atStart => exact ⟨0, Nat.zero_le _, rfl, by simpa using hown1, hb1⟩
  case round =>
    obtain ⟨k, hk, rfl, hown, hbel⟩ := hrel
    clear hown1 hb1
    by_cases hlt : k < xs.length
    · obtain ⟨b, o, rfl, hc⟩ := hat.num hlt
      have hcell := (hbel.cell (p := ⟨b, o + k, none⟩) (World.block_lt_of_cell? w _ hc)).trans hc
      have ht := Lib.hid (take_snoc xs k hlt)
      have hsz := hbel.size
      clear hc hat
      go_wp2_with (at_builtin; refine wpList_app1 ty_int rfl rfl rfl hown rfl rfl (by omega) hsz ?_; intro v' w1 hown' hg _)
      go_roundw
      case rel =>
        refine ⟨k + 1, by omega, by go_num, ?_, below_grown hbel hown hg (Nat.le_refl _) hsz⟩
        rw [ht.out, List.map_append]; exact hown'
      case measure => simp [intOf]; omega
    · obtain rfl : k = xs.length := by omega
      go_wp2
      go_ret
      rw [List.take_length] at hown
      exact ⟨_, rfl, hown, hbel⟩

set_option maxRecDepth 100000 in
theorem l1There_any (v : Value) (g : List (List Int)) (x : Int) (w : World) (hg : Gr w v g) (hn : g.length ≤ 1000000000) :
    Calls Tryd.prog 108 #[v, .int .i64 x] w fun e w' => e = .returned (.bool (dec (0 ≤ x ∧ x < g.length))) ∧ Below w.heap.size w w' := by
  have hg0 := hg
  obtain ⟨u, rfl, hr⟩ := hg
  obtain ⟨p, c, rfl, _⟩ := hr.shape
  have hbA := Lib.hid (below_alloc w (.cells #[.slice p g.length c] 29))
  have HG := Lib.hid (hg0.below hbA.out)
  clear hr hg0
  go_enter Tryd.func108, Tryd.ntmps108
  go_wp2_with (first
    | (go_at_call 153; refine (l1In_any _ _ _ _).mono ?_; rintro e w3 ⟨rfl, rfl⟩)
    | (go_at_call 132; refine (l1Size_any _ g _ HG.out).mono ?_; rintro e w2 ⟨rfl, hb2⟩))
  go_ret
  exact ⟨ret_bool (dec_congr (by omega)), hbA.out.trans (hb2.mono hbA.out.size)⟩

set_option maxRecDepth 100000 in
set_option maxHeartbeats 4000000 in
theorem l1Order_any (v lv : Value) (g : List (List Int)) (l : List Int) (hgl : g.length ≤ 1000000000) (w : World) (hg : Gr w v g) (hn : Nums w 2 .i64 lv l) :
    Calls Tryd.prog 203 #[v, lv] w fun e w' => e = .returned (.bool (dec (OrdOk g.length l))) ∧ Below w.heap.size w w' := by
  have hg0 := hg
  obtain ⟨u, rfl, hr⟩ := hg
  obtain ⟨p, c, rfl, _⟩ := hr.shape
  obtain ⟨lp, lc, rfl, hlp, hlc, hll, _⟩ := id hn.shape
  have hbA := Lib.hid (below_alloc w (.cells #[.slice p g.length c] 29))
  have BX := Lib.hid (Box.new w (.slice p g.length c) 29)
  have HG := Lib.hid (hg0.below hbA.out)
  have HN := Lib.hid (hn.below hbA.out)
  clear hr hg0 hn hlp
  by_cases hlen : l.length = g.length
  case neg =>
    have hne : ((l.length : Int) != (g.length : Int)) = true := by simp; omega
    go_enter Tryd.func203, Tryd.ntmps203
    go_wp2_with (go_at_call 132; refine (l1Size_any _ g _ HG.out).mono ?_; rintro e w2 ⟨rfl, hb2⟩)
    go_ret
    exact ⟨ret_bool (false_dec fun h => hlen h.1), hbA.out.trans (hb2.mono hbA.out.size)⟩
  have hne : ((l.length : Int) != (g.length : Int)) = false := by simp; omega
  have Hlen := Lib.hid hlen
  clear hlen
  go_enter Tryd.func203, Tryd.ntmps203
  go_wp2_with (go_at_call 132; refine (l1Size_any _ g _ HG.out).mono ?_; rintro e w2 ⟨rfl, hb2⟩)
  have HB2 := Lib.hid hb2
  have hsA := hbA.out.size
  clear hb2
  go_loopw [5] (fun i wr => ∃ k : Nat, k ≤ l.length ∧ i = .int .i64 k ∧ (∀ x ∈ l.take k, 0 ≤ x ∧ x < g.length) ∧ (l.take k).Nodup ∧ Below (w.alloc (.cells #[.slice p g.length c] 29)).heap.size (w.alloc (.cells #[.slice p g.length c] 29)) wr) (fun i _ => l.length - (intOf i).toNat)
  case atStart => exact ⟨0, Nat.zero_le _, rfl, by simp, by simp, HB2.out⟩
  case round =>
    obtain ⟨k, hk, rfl, hin, hnd, hbel⟩ := hrel
    have Hin := Lib.hid hin
    have Hnd := Lib.hid hnd
    have HBw := Lib.hid (hbA.out.trans (hbel.mono hsA))
    clear hin hnd
    by_cases hlt : k < l.length
    · have hn' := Lib.hid (HN.out.below hbel)
      obtain ⟨b, o, rfl, hc⟩ := hn'.out.get hlt
      have hbx := (BX.out.keep hbel).cell
      have hGr := Lib.hid (HG.out.below hbel)
      have hpre : Hid (Nums wr 2 .i64 (.slice (some ⟨b, o, none⟩) k lc) (l.take k)) := by
        obtain ⟨_, _, e1, _, _, _, hat⟩ := id hn'.out.shape
        cases e1
        have hlk : (l.take k).length = k := by rw [List.length_take]; omega
        refine Lib.hid ⟨_, _, by rw [hlk], (fun e => by cases e), by omega, by omega, ?_⟩
        rw [List.map_take]
        exact hat.take k
      have hx := Lib.hid (take_snoc l k hlt)
      have e0 : (0 : Int) ≤ (k : Int) := by omega
      have e1 : (k : Int) ≤ (lc : Int) := by omega
      have e2 : k ≤ lc := by omega
      have HBel := Lib.hid hbel
      clear hbel
      generalize hX : l[k] = X at hc hx
      by_cases hX1 : 0 ≤ X ∧ X < g.length
      case neg =>
        have hd := dec_false hX1
        have HX1 := Lib.hid hX1
        have hmem : Hid (X ∈ l) := Lib.hid (hX ▸ List.getElem_mem hlt)
        clear hX1 hX
        go_upto_region 6 with fail
        go_cut [33] (fun s wx => s = .bool true ∧ Below wr.heap.size wr wx)
        case first =>
          refine wp_region_held_drew (S := fun w' => w'.cell? ⟨w.heap.size, 0, none⟩ = some (.slice p g.length c) ∧ w'.cell? ⟨b, o + k, none⟩ = some (.int .i64 X)) (by kernel_rfl) ?_ (fun hHeld => ?_)
          · exact ⟨hbx, hc⟩
          refine wpAnyH_take (i := 0) (v := .agg #[.slice p g.length c]) rfl (by kernel_rfl) (by kernel_rfl) (by kernel_rfl) (fun _ _ _ h => h) (Or.inl ⟨by rfl, ?_⟩) (by assumption) ?_
          · intro wz hSw; (try dsimp only at hSw); go_simp; try rfl
          try simp only [Act.put, List.setIfInBounds_toArray, List.set_cons_zero, List.set_cons_succ]
          refine wpAnyH_take (i := 1) (v := .slice (some ⟨b, o, none⟩) l.length lc) rfl (by kernel_rfl) (by kernel_rfl) (by kernel_rfl) (fun _ _ _ h => h) (Or.inl ⟨by rfl, ?_⟩) (by assumption) ?_
          · intro wz hSw; (try dsimp only at hSw); go_simp; try rfl
          try simp only [Act.put, List.setIfInBounds_toArray, List.set_cons_zero, List.set_cons_succ]
          refine wpAnyH_take (i := 2) (v := .int .i64 k) rfl (by kernel_rfl) (by kernel_rfl) (by kernel_rfl) (fun _ _ _ h => h) (Or.inl ⟨by rfl, ?_⟩) (by assumption) ?_
          · intro wz hSw; (try dsimp only at hSw); go_simp; try rfl
          try simp only [Act.put, List.setIfInBounds_toArray, List.set_cons_zero, List.set_cons_succ]
          refine wpAnyH_take (i := 3) (v := .pointer (some ⟨b, o + k, none⟩)) rfl (by kernel_rfl) (by kernel_rfl) (by kernel_rfl) (fun _ _ _ h => h) (Or.inl ⟨by rfl, ?_⟩) (by assumption) ?_
          · intro wz hSw; (try dsimp only at hSw); go_simp; try rfl
          try simp only [Act.put, List.setIfInBounds_toArray, List.set_cons_zero, List.set_cons_succ]
          refine wpAnyH_take (i := 4) (v := .int .i64 X) rfl (by kernel_rfl) (by kernel_rfl) (by kernel_rfl) (fun _ _ _ h => h) (Or.inl ⟨by rfl, ?_⟩) (by assumption) ?_
          · intro wz hSw; (try dsimp only at hSw); go_simp; try rfl
          try simp only [Act.put, List.setIfInBounds_toArray, List.set_cons_zero, List.set_cons_succ]
          refine wpAnyH_ready (rs := [5]) (by kernel_rfl) (by simp) ?_
          refine AllReadyH.cons rfl (fun K hK => ?_) AllReadyH.nil
          go_simp
          go_at_call 108
          refine (l1There_any _ g X _ (hGr.out.below (below_dN (Below.refl _ _) 1)) hgl).mono ?_
          rintro e w4 ⟨he4, hb4⟩
          rw [hd] at he4
          subst he4
          have hb4' : Below wr.heap.size wr w4 := (below_dN (Below.refl _ _) 1).trans hb4
          refine hK.out _ _ ?_ (fun hHeld => ?_)
          · exact ⟨hb4'.at' hbx, hb4'.at' hc⟩
          clear hK K
          try simp only [Act.put, List.setIfInBounds_toArray, List.set_cons_zero, List.set_cons_succ]
          refine wpAnyH_take (i := 6) (v := .bool true) rfl (by kernel_rfl) (by kernel_rfl) (by kernel_rfl) (fun _ _ _ h => h) (Or.inl ⟨by rfl, ?_⟩) (by assumption) ?_
          · intro wz hSw; (try dsimp only at hSw); go_simp; try rfl
          try simp only [Act.put, List.setIfInBounds_toArray, List.set_cons_zero, List.set_cons_succ]
          refine wpAnyH_take (i := 7) (v := .bool true) rfl (by kernel_rfl) (by kernel_rfl) (by kernel_rfl) (fun _ _ _ h => h) (Or.inl ⟨by rfl, ?_⟩) (by assumption) ?_
          · intro wz hSw; (try dsimp only at hSw); go_simp; try rfl
          try simp only [Act.put, List.setIfInBounds_toArray, List.set_cons_zero, List.set_cons_succ]
          refine wpAnyH_take (i := 8) (v := undef) rfl (by kernel_rfl) (by kernel_rfl) (by kernel_rfl) (fun _ _ _ h => h) (Or.inr ⟨by kernel_rfl, rfl⟩) (by assumption) ?_
          try simp only [Act.put, List.setIfInBounds_toArray, List.set_cons_zero, List.set_cons_succ]
          refine wpAnyH_take (i := 9) (v := undef) rfl (by kernel_rfl) (by kernel_rfl) (by kernel_rfl) (fun _ _ _ h => h) (Or.inr ⟨by kernel_rfl, rfl⟩) (by assumption) ?_
          try simp only [Act.put, List.setIfInBounds_toArray, List.set_cons_zero, List.set_cons_succ]
          refine wpAnyH_take (i := 10) (v := undef) rfl (by kernel_rfl) (by kernel_rfl) (by kernel_rfl) (fun _ _ _ h => h) (Or.inr ⟨by kernel_rfl, rfl⟩) (by assumption) ?_
          try simp only [Act.put, List.setIfInBounds_toArray, List.set_cons_zero, List.set_cons_succ]
          refine wpAnyH_take (i := 11) (v := undef) rfl (by kernel_rfl) (by kernel_rfl) (by kernel_rfl) (fun _ _ _ h => h) (Or.inr ⟨by kernel_rfl, rfl⟩) (by assumption) ?_
          try simp only [Act.put, List.setIfInBounds_toArray, List.set_cons_zero, List.set_cons_succ]
          refine wpAnyH_take (i := 12) (v := undef) rfl (by kernel_rfl) (by kernel_rfl) (by kernel_rfl) (fun _ _ _ h => h) (Or.inr ⟨by kernel_rfl, rfl⟩) (by assumption) ?_
          try simp only [Act.put, List.setIfInBounds_toArray, List.set_cons_zero, List.set_cons_succ]
          refine wpAnyH_take (i := 13) (v := undef) rfl (by kernel_rfl) (by kernel_rfl) (by kernel_rfl) (fun _ _ _ h => h) (Or.inr ⟨by kernel_rfl, rfl⟩) (by assumption) ?_
          try simp only [Act.put, List.setIfInBounds_toArray, List.set_cons_zero, List.set_cons_succ]
          refine wpAnyH_take (i := 14) (v := undef) rfl (by kernel_rfl) (by kernel_rfl) (by kernel_rfl) (fun _ _ _ h => h) (Or.inr ⟨by kernel_rfl, rfl⟩) (by assumption) ?_
          try simp only [Act.put, List.setIfInBounds_toArray, List.set_cons_zero, List.set_cons_succ]
          refine wpAnyH_take (i := 15) (v := undef) rfl (by kernel_rfl) (by kernel_rfl) (by kernel_rfl) (fun _ _ _ h => h) (Or.inr ⟨by kernel_rfl, rfl⟩) (by assumption) ?_
          simp only [Act.put, List.getElem_toArray, List.getElem_cons_succ, List.getElem_cons_zero, List.setIfInBounds_toArray, List.set_cons_zero, List.set_cons_succ]
          refine wpAnyH_take (i := 16) (v := .bool true) rfl (by kernel_rfl) (by kernel_rfl) (by kernel_rfl) (fun _ _ _ h => h) (Or.inl ⟨by rfl, ?_⟩) (by assumption) ?_
          · intro wz hSw; (try dsimp only at hSw); go_simp; try rfl
          simp only [Act.put, List.getElem_toArray, List.getElem_cons_succ, List.getElem_cons_zero, List.setIfInBounds_toArray, List.set_cons_zero, List.set_cons_succ]
          refine wpAnyH_done (by kernel_rfl) ?_ _
          go_wp2
          go_meet
          exact ⟨by kernel_rfl, hb4'⟩
        case rest =>
          obtain ⟨rfl, hbc⟩ := hcut
          go_wp2
          go_ret
          exact ⟨ret_bool (false_dec fun h => HX1.out (h.2.1 _ hmem.out)), HBw.out.trans (hbc.mono HBw.out.size)⟩
      have hd := dec_true hX1
      have HX1 := Lib.hid hX1
      clear hX1
      by_cases hX2 : X ∈ l.take k
      case pos =>
        have hd2 := dec_true hX2
        have hnot : Hid (¬ l.Nodup) := Lib.hid (fun h => by
          have h1 : (l.take (k + 1)).Nodup := h.sublist (List.take_sublist _ _)
          rw [hx.out] at h1
          exact (nodup_snoc.1 h1).2 hX2)
        clear hX2 hX
        go_upto_region 6 with fail
        go_cut [33] (fun s wx => s = .bool true ∧ Below wr.heap.size wr wx)
        case first =>
          go_region_held3 (fun w' => w'.cell? ⟨w.heap.size, 0, none⟩ = some (.slice p g.length c) ∧ w'.cell? ⟨b, o + k, none⟩ = some (.int .i64 X))
            (first | go_keep | exact ⟨hb4'.at' hbx, hb4'.at' hc⟩)
            (first | (go_at_call 108; refine (l1There_any _ g X _ (hGr.out.below (below_dN (Below.refl _ _) 1)) hgl).mono ?_; rintro e w4 ⟨he4, hb4⟩; rw [hd] at he4; subst he4; have hb4' : Below wr.heap.size wr w4 := (below_dN (Below.refl _ _) 1).trans hb4) | (go_at_call 158; refine (l1Has_any _ _ X _ (hpre.out.below hb4')).mono ?_; rintro e w5 ⟨he5, rfl⟩; rw [hd2] at he5; subst he5))
          all_goals go_wp2
          all_goals go_meet
          all_goals exact ⟨rfl, hb4'⟩
        case rest =>
          obtain ⟨rfl, hbc⟩ := hcut
          go_wp2
          go_ret
          exact ⟨ret_bool (false_dec fun h => hnot.out h.2.2), HBw.out.trans (hbc.mono HBw.out.size)⟩
      case neg =>
        have hd2 := dec_false hX2
        have HX2 := Lib.hid hX2
        clear hX2 hX
        go_upto_region 6 with fail
        go_cut [33] (fun s wx => s = .bool false ∧ Below wr.heap.size wr wx)
        case first =>
          go_region_held3 (fun w' => w'.cell? ⟨w.heap.size, 0, none⟩ = some (.slice p g.length c) ∧ w'.cell? ⟨b, o + k, none⟩ = some (.int .i64 X))
            (first | go_keep | exact ⟨hb4'.at' hbx, hb4'.at' hc⟩)
            (first | (go_at_call 108; refine (l1There_any _ g X _ (hGr.out.below (below_dN (Below.refl _ _) 1)) hgl).mono ?_; rintro e w4 ⟨he4, hb4⟩; rw [hd] at he4; subst he4; have hb4' : Below wr.heap.size wr w4 := (below_dN (Below.refl _ _) 1).trans hb4) | (go_at_call 158; refine (l1Has_any _ _ X _ (hpre.out.below hb4')).mono ?_; rintro e w5 ⟨he5, rfl⟩; rw [hd2] at he5; subst he5))
          all_goals go_wp2
          all_goals go_meet
          all_goals exact ⟨rfl, hb4'⟩
        case rest =>
          obtain ⟨rfl, hbc⟩ := hcut
          go_wp2
          go_roundw
          case rel =>
            have hbel' := HBel.out
            refine ⟨k + 1, by omega, by go_num, ?_, ?_, hbel'.trans (hbc.mono hbel'.size)⟩
            · rw [hx.out]
              intro x hxm
              rcases List.mem_append.1 hxm with h | h
              · exact Hin.out x h
              · simp only [List.mem_singleton] at h; subst h; exact HX1.out
            · rw [hx.out]
              exact nodup_snoc.2 ⟨Hnd.out, HX2.out⟩
          case measure => simp [intOf]; omega
    · obtain rfl : k = l.length := by omega
      go_wp2
      go_ret
      have h1 := Hin.out
      have h2 := Hnd.out
      rw [List.take_length] at h1 h2
      exact ⟨ret_bool (true_dec ⟨Hlen.out, h1, h2⟩), HBw.out⟩

end Go.Proofs.YtkppbmfliejnmaaDoor
