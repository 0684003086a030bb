/- Walks: orders of all vertices, of both; a row of numbers narrowed. -/
import Derived.Test.YtkppbmfliejnmaaDoorSnQ36
import Derived.Deep.RegionHeld3
import Derived.Deep.DeepCutAuto
import Derived.Deep.RegionLaw
import Derived.Test.YtkppbmfliejnmaaDoorSnQ12
namespace Go.Proofs.YtkppbmfliejnmaaDoor
open Go.RowKit

set_option maxRecDepth 100000 in
set_option maxHeartbeats 1000000 in
theorem narrow_any (v : Value) (xs : List Int) (w : World) (hx : Nums w 2 .i64 v xs) :
    Calls Tryd.prog 117 #[v] w fun e w' => ∃ u, e = .returned u ∧
      w'.ownsRow w.heap.size 3 1 u xs.length (xs.map (Value.int .i64)) ∧ Below w.heap.size w w' := by
  obtain ⟨p, c, rfl, _, _, hn, hat⟩ := hx
  go_enter Tryd.func117, Tryd.ntmps117
  go_wp2_with (at_make; refine wpList_mk0 ty_int rfl rfl xs.length rfl rfl rfl hn ?_; intro w1 hown1 hg1)
  have hb1 := grown_below hg1
  clear hg1
  go_loopw [3, 5, 11] (fun u _ i wr => ∃ k : Nat, k ≤ xs.length ∧ i = .int .i64 k ∧ wr.ownsRow w.heap.size 3 1 u k ((xs.take k).map (Value.int .i64)) ∧ Below w.heap.size w wr)
    (fun _ _ i _ => xs.length - (intOf i).toNat)
  case atStart => exact ⟨0, Nat.zero_le _, rfl, by simpa using hown1, hb1⟩
  case round =>
    obtain ⟨k, hk, rfl, hown, hbel⟩ := hrel
    clear hown1 hb1
    by_cases hlt : k < xs.length
    · obtain ⟨b, o, rfl, hc⟩ := hat.num hlt
      have hcell := (hbel.cell (p := ⟨b, o + k, none⟩) (World.block_lt_of_cell? w _ hc)).trans hc
      have ht := Lib.hid (take_snoc xs k hlt)
      have hsz := hbel.size
      clear hc hat
      go_wp2_with (at_builtin; refine wpList_app1 ty_int rfl rfl rfl hown rfl rfl (by omega) hsz ?_; intro v' w1 hown' hg _)
      go_roundw
      case rel =>
        refine ⟨k + 1, by omega, by go_num, ?_, below_grown hbel hown hg (Nat.le_refl _) hsz⟩
        rw [ht.out, List.map_append]; exact hown'
      case measure => simp [intOf]; omega
    · obtain rfl : k = xs.length := by omega
      go_wp2
      go_ret
      rw [List.take_length] at hown
      exact ⟨_, rfl, hown, hbel⟩

set_option maxRecDepth 100000 in
theorem l1There_any (v : Value) (g : List (List Int)) (x : Int) (w : World) (hg : Gr w v g) (hn : g.length ≤ 1000000000) :
    Calls Tryd.prog 108 #[v, .int .i64 x] w fun e w' => e = .returned (.bool (dec (0 ≤ x ∧ x < g.length))) ∧ Below w.heap.size w w' := by
  have hg0 := hg
  obtain ⟨u, rfl, hr⟩ := hg
  obtain ⟨p, c, rfl, _⟩ := hr.shape
  have hbA := Lib.hid (below_alloc w (.cells #[.slice p g.length c] 29))
  have HG := Lib.hid (hg0.below hbA.out)
  clear hr hg0
  go_enter Tryd.func108, Tryd.ntmps108
  go_wp2_with (first
    | (go_at_call 153; refine (l1In_any _ _ _ _).mono ?_; rintro e w3 ⟨rfl, rfl⟩)
    | (go_at_call 132; refine (l1Size_any _ g _ HG.out).mono ?_; rintro e w2 ⟨rfl, hb2⟩))
  go_ret
  exact ⟨ret_bool (dec_congr (by omega)), hbA.out.trans (hb2.mono hbA.out.size)⟩

set_option maxRecDepth 100000 in
set_option maxHeartbeats 4000000 in
theorem l1Order_any (v lv : Value) (g : List (List Int)) (l : List Int) (hgl : g.length ≤ 1000000000) (w : World) (hg : Gr w v g) (hn : Nums w 2 .i64 lv l) :
    Calls Tryd.prog 203 #[v, lv] w fun e w' => e = .returned (.bool (dec (OrdOk g.length l))) ∧ Below w.heap.size w w' := by
  have hg0 := hg
  obtain ⟨u, rfl, hr⟩ := hg
  obtain ⟨p, c, rfl, _⟩ := hr.shape
  obtain ⟨lp, lc, rfl, hlp, hlc, hll, _⟩ := id hn.shape
  have hbA := Lib.hid (below_alloc w (.cells #[.slice p g.length c] 29))
  have BX := Lib.hid (Box.new w (.slice p g.length c) 29)
  have HG := Lib.hid (hg0.below hbA.out)
  have HN := Lib.hid (hn.below hbA.out)
  clear hr hg0 hn hlp
  by_cases hlen : l.length = g.length
  case neg =>
    have hne : ((l.length : Int) != (g.length : Int)) = true := by simp; omega
    go_enter Tryd.func203, Tryd.ntmps203
    go_wp2_with (go_at_call 132; refine (l1Size_any _ g _ HG.out).mono ?_; rintro e w2 ⟨rfl, hb2⟩)
    go_ret
    exact ⟨ret_bool (false_dec fun h => hlen h.1), hbA.out.trans (hb2.mono hbA.out.size)⟩
  have hne : ((l.length : Int) != (g.length : Int)) = false := by simp; omega
  have Hlen := Lib.hid hlen
  clear hlen
  go_enter Tryd.func203, Tryd.ntmps203
  go_wp2_with (go_at_call 132; refine (l1Size_any _ g _ HG.out).mono ?_; rintro e w2 ⟨rfl, hb2⟩)
  have HB2 := Lib.hid hb2
  have hsA := hbA.out.size
  clear hb2
  go_loopw [5] (fun i wr => ∃ k : Nat, k ≤ l.length ∧ i = .int .i64 k ∧ (∀ x ∈ l.take k, 0 ≤ x ∧ x < g.length) ∧ (l.take k).Nodup ∧ Below (w.alloc (.cells #[.slice p g.length c] 29)).heap.size (w.alloc (.cells #[.slice p g.length c] 29)) wr) (fun i _ => l.length - (intOf i).toNat)
  case atStart => exact ⟨0, Nat.zero_le _, rfl, by simp, by simp, HB2.out⟩
  case round =>
    obtain ⟨k, hk, rfl, hin, hnd, hbel⟩ := hrel
    have Hin := Lib.hid hin
    have Hnd := Lib.hid hnd
    have HBw := Lib.hid (hbA.out.trans (hbel.mono hsA))
    clear hin hnd
    by_cases hlt : k < l.length
    · have hn' := Lib.hid (HN.out.below hbel)
      obtain ⟨b, o, rfl, hc⟩ := hn'.out.get hlt
      have hbx := (BX.out.keep hbel).cell
      have hGr := Lib.hid (HG.out.below hbel)
      have hpre : Hid (Nums wr 2 .i64 (.slice (some ⟨b, o, none⟩) k lc) (l.take k)) := by
        obtain ⟨_, _, e1, _, _, _, hat⟩ := id hn'.out.shape
        cases e1
        have hlk : (l.take k).length = k := by rw [List.length_take]; omega
        refine Lib.hid ⟨_, _, by rw [hlk], (fun e => by cases e), by omega, by omega, ?_⟩
        rw [List.map_take]
        exact hat.take k
      have hx := Lib.hid (take_snoc l k hlt)
      have e0 : (0 : Int) ≤ (k : Int) := by omega
      have e1 : (k : Int) ≤ (lc : Int) := by omega
      have e2 : k ≤ lc := by omega
      have HBel := Lib.hid hbel
      clear hbel
      generalize hX : l[k] = X at hc hx
      by_cases hX1 : 0 ≤ X ∧ X < g.length
      case neg =>
        have hd := dec_false hX1
        have HX1 := Lib.hid hX1
        have hmem : Hid (X ∈ l) := Lib.hid (hX ▸ List.getElem_mem hlt)
        clear hX1 hX
        go_upto_region 6 with fail
        go_cut [33] (fun s wx => s = .bool true ∧ Below wr.heap.size wr wx)
        case first =>
          refine wp_region_held_drew (S := fun w' => w'.cell? ⟨w.heap.size, 0, none⟩ = some (.slice p g.length c) ∧ w'.cell? ⟨b, o + k, none⟩ = some (.int .i64 X)) (by kernel_rfl) ?_ (fun hHeld => ?_)
          · exact ⟨hbx, hc⟩
          refine wpAnyH_take (i := 0) (v := .agg #[.slice p g.length c]) rfl (by kernel_rfl) (by kernel_rfl) (by kernel_rfl) (fun _ _ _ h => h) (Or.inl ⟨by rfl, ?_⟩) (by assumption) ?_
          · intro wz hSw; (try dsimp only at hSw); go_simp; try rfl
          try simp only [Act.put, List.setIfInBounds_toArray, List.set_cons_zero, List.set_cons_succ]
          refine wpAnyH_take (i := 1) (v := .slice (some ⟨b, o, none⟩) l.length lc) rfl (by kernel_rfl) (by kernel_rfl) (by kernel_rfl) (fun _ _ _ h => h) (Or.inl ⟨by rfl, ?_⟩) (by assumption) ?_
          · intro wz hSw; (try dsimp only at hSw); go_simp; try rfl
          try simp only [Act.put, List.setIfInBounds_toArray, List.set_cons_zero, List.set_cons_succ]
          refine wpAnyH_take (i := 2) (v := .int .i64 k) rfl (by kernel_rfl) (by kernel_rfl) (by kernel_rfl) (fun _ _ _ h => h) (Or.inl ⟨by rfl, ?_⟩) (by assumption) ?_
          · intro wz hSw; (try dsimp only at hSw); go_simp; try rfl
          try simp only [Act.put, List.setIfInBounds_toArray, List.set_cons_zero, List.set_cons_succ]
          refine wpAnyH_take (i := 3) (v := .pointer (some ⟨b, o + k, none⟩)) rfl (by kernel_rfl) (by kernel_rfl) (by kernel_rfl) (fun _ _ _ h => h) (Or.inl ⟨by rfl, ?_⟩) (by assumption) ?_
          · intro wz hSw; (try dsimp only at hSw); go_simp; try rfl
          try simp only [Act.put, List.setIfInBounds_toArray, List.set_cons_zero, List.set_cons_succ]
          refine wpAnyH_take (i := 4) (v := .int .i64 X) rfl (by kernel_rfl) (by kernel_rfl) (by kernel_rfl) (fun _ _ _ h => h) (Or.inl ⟨by rfl, ?_⟩) (by assumption) ?_
          · intro wz hSw; (try dsimp only at hSw); go_simp; try rfl
          try simp only [Act.put, List.setIfInBounds_toArray, List.set_cons_zero, List.set_cons_succ]
          refine wpAnyH_ready (rs := [5]) (by kernel_rfl) (by simp) ?_
          refine AllReadyH.cons rfl (fun K hK => ?_) AllReadyH.nil
          go_simp
          go_at_call 108
          refine (l1There_any _ g X _ (hGr.out.below (below_dN (Below.refl _ _) 1)) hgl).mono ?_
          rintro e w4 ⟨he4, hb4⟩
          rw [hd] at he4
          subst he4
          have hb4' : Below wr.heap.size wr w4 := (below_dN (Below.refl _ _) 1).trans hb4
          refine hK.out _ _ ?_ (fun hHeld => ?_)
          · exact ⟨hb4'.at' hbx, hb4'.at' hc⟩
          clear hK K
          try simp only [Act.put, List.setIfInBounds_toArray, List.set_cons_zero, List.set_cons_succ]
          refine wpAnyH_take (i := 6) (v := .bool true) rfl (by kernel_rfl) (by kernel_rfl) (by kernel_rfl) (fun _ _ _ h => h) (Or.inl ⟨by rfl, ?_⟩) (by assumption) ?_
          · intro wz hSw; (try dsimp only at hSw); go_simp; try rfl
          try simp only [Act.put, List.setIfInBounds_toArray, List.set_cons_zero, List.set_cons_succ]
          refine wpAnyH_take (i := 7) (v := .bool true) rfl (by kernel_rfl) (by kernel_rfl) (by kernel_rfl) (fun _ _ _ h => h) (Or.inl ⟨by rfl, ?_⟩) (by assumption) ?_
          · intro wz hSw; (try dsimp only at hSw); go_simp; try rfl
          try simp only [Act.put, List.setIfInBounds_toArray, List.set_cons_zero, List.set_cons_succ]
          refine wpAnyH_take (i := 8) (v := undef) rfl (by kernel_rfl) (by kernel_rfl) (by kernel_rfl) (fun _ _ _ h => h) (Or.inr ⟨by kernel_rfl, rfl⟩) (by assumption) ?_
          try simp only [Act.put, List.setIfInBounds_toArray, List.set_cons_zero, List.set_cons_succ]
          refine wpAnyH_take (i := 9) (v := undef) rfl (by kernel_rfl) (by kernel_rfl) (by kernel_rfl) (fun _ _ _ h => h) (Or.inr ⟨by kernel_rfl, rfl⟩) (by assumption) ?_
          try simp only [Act.put, List.setIfInBounds_toArray, List.set_cons_zero, List.set_cons_succ]
          refine wpAnyH_take (i := 10) (v := undef) rfl (by kernel_rfl) (by kernel_rfl) (by kernel_rfl) (fun _ _ _ h => h) (Or.inr ⟨by kernel_rfl, rfl⟩) (by assumption) ?_
          try simp only [Act.put, List.setIfInBounds_toArray, List.set_cons_zero, List.set_cons_succ]
          refine wpAnyH_take (i := 11) (v := undef) rfl (by kernel_rfl) (by kernel_rfl) (by kernel_rfl) (fun _ _ _ h => h) (Or.inr ⟨by kernel_rfl, rfl⟩) (by assumption) ?_
          try simp only [Act.put, List.setIfInBounds_toArray, List.set_cons_zero, List.set_cons_succ]
          refine wpAnyH_take (i := 12) (v := undef) rfl (by kernel_rfl) (by kernel_rfl) (by kernel_rfl) (fun _ _ _ h => h) (Or.inr ⟨by kernel_rfl, rfl⟩) (by assumption) ?_
          try simp only [Act.put, List.setIfInBounds_toArray, List.set_cons_zero, List.set_cons_succ]
          refine wpAnyH_take (i := 13) (v := undef) rfl (by kernel_rfl) (by kernel_rfl) (by kernel_rfl) (fun _ _ _ h => h) (Or.inr ⟨by kernel_rfl, rfl⟩) (by assumption) ?_
          try simp only [Act.put, List.setIfInBounds_toArray, List.set_cons_zero, List.set_cons_succ]
          refine wpAnyH_take (i := 14) (v := undef) rfl (by kernel_rfl) (by kernel_rfl) (by kernel_rfl) (fun _ _ _ h => h) (Or.inr ⟨by kernel_rfl, rfl⟩) (by assumption) ?_
          try simp only [Act.put, List.setIfInBounds_toArray, List.set_cons_zero, List.set_cons_succ]
          refine wpAnyH_take (i := 15) (v := undef) rfl (by kernel_rfl) (by kernel_rfl) (by kernel_rfl) (fun _ _ _ h => h) (Or.inr ⟨by kernel_rfl, rfl⟩) (by assumption) ?_
          simp only [Act.put, List.getElem_toArray, List.getElem_cons_succ, List.getElem_cons_zero, List.setIfInBounds_toArray, List.set_cons_zero, List.set_cons_succ]
          refine wpAnyH_take (i := 16) (v := .bool true) rfl (by kernel_rfl) (by kernel_rfl) (by kernel_rfl) (fun _ _ _ h => h) (Or.inl ⟨by rfl, ?_⟩) (by assumption) ?_
          · intro wz hSw; (try dsimp only at hSw); go_simp; try rfl
          simp only [Act.put, List.getElem_toArray, List.getElem_cons_succ, List.getElem_cons_zero, List.setIfInBounds_toArray, List.set_cons_zero, List.set_cons_succ]
          refine wpAnyH_done (by kernel_rfl) ?_ _
          go_wp2
          go_meet
          exact ⟨by kernel_rfl, hb4'⟩
        case rest =>
          obtain ⟨rfl, hbc⟩ := hcut
          go_wp2
          go_ret
          exact ⟨ret_bool (false_dec fun h => HX1.out (h.2.1 _ hmem.out)), HBw.out.trans (hbc.mono HBw.out.size)⟩
      have hd := dec_true hX1
      have HX1 := Lib.hid hX1
      clear hX1
      by_cases hX2 : X ∈ l.take k
      case pos =>
        have hd2 := dec_true hX2
        have hnot : Hid (¬ l.Nodup) := Lib.hid (fun h => by
          have h1 : (l.take (k + 1)).Nodup := h.sublist (List.take_sublist _ _)
          rw [hx.out] at h1
          exact (nodup_snoc.1 h1).2 hX2)
        clear hX2 hX
        go_upto_region 6 with fail
        go_cut [33] (fun s wx => s = .bool true ∧ Below wr.heap.size wr wx)
        case first =>
          go_region_held3 (fun w' => w'.cell? ⟨w.heap.size, 0, none⟩ = some (.slice p g.length c) ∧ w'.cell? ⟨b, o + k, none⟩ = some (.int .i64 X))
            (first | go_keep | exact ⟨hb4'.at' hbx, hb4'.at' hc⟩)
            (first | (go_at_call 108; refine (l1There_any _ g X _ (hGr.out.below (below_dN (Below.refl _ _) 1)) hgl).mono ?_; rintro e w4 ⟨he4, hb4⟩; rw [hd] at he4; subst he4; have hb4' : Below wr.heap.size wr w4 := (below_dN (Below.refl _ _) 1).trans hb4) | (go_at_call 158; refine (l1Has_any _ _ X _ (hpre.out.below hb4')).mono ?_; rintro e w5 ⟨he5, rfl⟩; rw [hd2] at he5; subst he5))
          all_goals go_wp2
          all_goals go_meet
          all_goals exact ⟨rfl, hb4'⟩
        case rest =>
          obtain ⟨rfl, hbc⟩ := hcut
          go_wp2
          go_ret
          exact ⟨ret_bool (false_dec fun h => hnot.out h.2.2), HBw.out.trans (hbc.mono HBw.out.size)⟩
      case neg =>
        have hd2 := dec_false hX2
        have HX2 := Lib.hid hX2
        clear hX2 hX
        go_upto_region 6 with fail
        go_cut [33] (fun s wx => s = .bool false ∧ Below wr.heap.size wr wx)
        case first =>
          go_region_held3 (fun w' => w'.cell? ⟨w.heap.size, 0, none⟩ = some (.slice p g.length c) ∧ w'.cell? ⟨b, o + k, none⟩ = some (.int .i64 X))
            (first | go_keep | exact ⟨hb4'.at' hbx, hb4'.at' hc⟩)
            (first | (go_at_call 108; refine (l1There_any _ g X _ (hGr.out.below (below_dN (Below.refl _ _) 1)) hgl).mono ?_; rintro e w4 ⟨he4, hb4⟩; rw [hd] at he4; subst he4; have hb4' : Below wr.heap.size wr w4 := (below_dN (Below.refl _ _) 1).trans hb4) | (go_at_call 158; refine (l1Has_any _ _ X _ (hpre.out.below hb4')).mono ?_; rintro e w5 ⟨he5, rfl⟩; rw [hd2] at he5; subst he5))
          all_goals go_wp2
          all_goals go_meet
          all_goals exact ⟨rfl, hb4'⟩
        case rest =>
          obtain ⟨rfl, hbc⟩ := hcut
          go_wp2
          go_roundw
          case rel =>
            have hbel' := HBel.out
            refine ⟨k + 1, by omega, by go_num, ?_, ?_, hbel'.trans (hbc.mono hbel'.size)⟩
            · rw [hx.out]
              intro x hxm
              rcases List.mem_append.1 hxm with h | h
              · exact Hin.out x h
              · simp only [List.mem_singleton] at h; subst h; exact HX1.out
            · rw [hx.out]
              exact nodup_snoc.2 ⟨Hnd.out, HX2.out⟩
          case measure => simp [intOf]; omega
    · obtain rfl : k = l.length := by omega
      go_wp2
      go_ret
      have h1 := Hin.out
      have h2 := Hnd.out
      rw [List.take_length] at h1 h2
      exact ⟨ret_bool (true_dec ⟨Hlen.out, h1, h2⟩), HBw.out⟩

end Go.Proofs.YtkppbmfliejnmaaDoor

/- Walks: the orders of a graph's vertices, of both; Renamed, of both. -/
namespace Go.Proofs.YtkppbmfliejnmaaDoor
open Go.RowKit

set_option maxRecDepth 100000 in
set_option maxHeartbeats 1000000 in
theorem specOrderOk_any (v lv : Value) (g : List (List Int)) (l : List Int) (w : World) (hg : Gr w v g) (hn : Nums w 2 .i64 lv l) :
    Calls Tryd.prog 134 #[v, lv] w fun e w' => e = .returned (.bool (dec (GOk g ∧ OrdOk g.length l))) ∧ Below w.heap.size w w' := by
  have hg0 := hg
  obtain ⟨u, rfl, hr⟩ := hg
  obtain ⟨p, c, rfl, _, _, hgl⟩ := hr.shape
  obtain ⟨lp, lc, rfl, _⟩ := id hn.shape
  have hbA := Lib.hid (below_alloc w (.cells #[.slice p g.length c] 29))
  have BX := Lib.hid (Box.new w (.slice p g.length c) 29)
  have HG := Lib.hid (hg0.below hbA.out)
  have HN := Lib.hid (hn.below hbA.out)
  clear hr hg0 hn
  by_cases hok : GOk g
  · have hd := dec_true hok
    have Hok := Lib.hid hok
    clear hok
    go_enter Tryd.func134, Tryd.ntmps134
    go_wp2_with (first
      | (go_at_call 203; refine (l1Order_any _ _ g l hgl _ (HG.out.below hb2) (HN.out.below hb2)).mono ?_; rintro e w3 ⟨rfl, hb3⟩)
      | (go_at_call 73; refine (specGraphOk_any _ g _ HG.out).mono ?_; rintro e w2 ⟨rfl, hb2⟩; have hbx := (BX.out.keep hb2).cell))
    go_ret
    exact ⟨ret_bool (dec_congr ⟨fun h => ⟨Hok.out, h⟩, fun h => h.2⟩), (hbA.out.trans (hb2.mono hbA.out.size)).trans (hb3.mono (Nat.le_trans hbA.out.size hb2.size))⟩
  · have hd := dec_false hok
    have Hok := Lib.hid hok
    clear hok
    go_enter Tryd.func134, Tryd.ntmps134
    go_wp2_with (go_at_call 73; refine (specGraphOk_any _ g _ HG.out).mono ?_; rintro e w2 ⟨rfl, hb2⟩)
    go_ret
    exact ⟨ret_bool (false_dec fun h => Hok.out h.1), hbA.out.trans (hb2.mono hbA.out.size)⟩

set_option maxRecDepth 100000 in
set_option maxHeartbeats 1000000 in
theorem implOrderOk_any (v lv : Value) (g : List (List Int)) (l : List Int) (w : World) (hg : Gr w v g) (hn : Nums w 2 .i64 lv l) :
    Calls Tryd.prog 115 #[v, lv] w fun e w' => e = .returned (.bool (dec (GOk g ∧ OrdOk g.length l))) ∧ Below w.heap.size w w' := by
  have hg0 := hg
  obtain ⟨u, rfl, hr⟩ := hg
  obtain ⟨p, c, rfl, _, _, hgl⟩ := hr.shape
  obtain ⟨lp, lc, rfl, _, _, hll, _⟩ := id hn.shape
  have hbA := Lib.hid (below_alloc w (.cells #[.slice p g.length c] 29))
  have BX := Lib.hid (Box.new w (.slice p g.length c) 29)
  have HG := Lib.hid (hg0.below hbA.out)
  have HN := Lib.hid (hn.below hbA.out)
  clear hr hg0 hn
  by_cases hok : GOk g
  case neg =>
    have hd := dec_false hok
    have Hok := Lib.hid hok
    clear hok
    go_enter Tryd.func115, Tryd.ntmps115
    go_wp2_with (go_at_call 87; refine (implGraphOk_any _ g _ HG.out).mono ?_; rintro e w2 ⟨rfl, hb2⟩)
    go_ret
    exact ⟨ret_bool (false_dec fun h => Hok.out h.1), hbA.out.trans (hb2.mono hbA.out.size)⟩
  have hd := dec_true hok
  have Hok := Lib.hid hok
  clear hok
  by_cases hlen : l.length = g.length
  case neg =>
    have hne : ((l.length : Int) != (g.length : Int)) = true := by simp; omega
    have Hlen := Lib.hid hlen
    clear hlen
    go_enter Tryd.func115, Tryd.ntmps115
    go_wp2_with (go_at_call 87; refine (implGraphOk_any _ g _ HG.out).mono ?_; rintro e w2 ⟨rfl, hb2⟩; have hbx := (BX.out.keep hb2).cell)
    go_ret
    exact ⟨ret_bool (false_dec fun h => Hlen.out h.2.1), hbA.out.trans (hb2.mono hbA.out.size)⟩
  have hne : ((l.length : Int) != (g.length : Int)) = false := by simp; omega
  have Hlen := Lib.hid hlen
  clear hlen
  go_enter Tryd.func115, Tryd.ntmps115
  go_wp2_with (first
    | (go_at_call 177; refine (increasing_any _ _ g.length (by omega) (by omega) _ (Nums.of_owns hown4 (by simp) hll)).mono ?_; rintro e w5 ⟨rfl, rfl⟩)
    | (go_at_call 192; refine (sorted_any w2.heap.size _ l hll _ (by rw [size_alloc]; omega) (cell_new _ _ _) (Held.of_nums ((HN.out.below hb2).below (below_alloc w2 _)))).mono ?_; rintro e w4 ⟨sv, rfl, hown4, hb4⟩; have hbx4 := (((BX.out.keep hb2).alloc (.cells #[.slice lp l.length lc] 33)).keep hb4).cell)
    | (go_at_call 193; refine (values_any _ _ _ _).mono ?_; rintro e w3 ⟨rfl, rfl⟩)
    | (go_at_call 87; refine (implGraphOk_any _ g _ HG.out).mono ?_; rintro e w2 ⟨rfl, hb2⟩; have hbx := (BX.out.keep hb2).cell))
  go_ret
  have hb := ((hbA.out.trans (hb2.mono hbA.out.size)).alloc (Nat.le_trans hbA.out.size hb2.size) (.cells #[.slice lp l.length lc] 33)).trans (hb4.mono (by rw [size_alloc]; have := hbA.out.size; have := hb2.size; omega))
  exact ⟨ret_bool (dec_congr ⟨fun h => ⟨Hok.out, (ordOk_sort Hlen.out).1 h⟩, fun h => (ordOk_sort Hlen.out).2 h.2⟩), hb⟩

end Go.Proofs.YtkppbmfliejnmaaDoor

/- Walks: Renamed, of both. -/
namespace Go.Proofs.YtkppbmfliejnmaaDoor
open Go.RowKit

theorem natInts_toNat {l : List Int} (h : ∀ x ∈ l, 0 ≤ x) : natInts (l.map Int.toNat) = l := by
  unfold natInts
  rw [List.map_map]
  conv => rhs; rw [← List.map_id l]
  exact List.map_congr_left fun x hx => Int.toNat_of_nonneg (h x hx)
theorem netL_len (g : List (List Int)) : (netL g).length = g.length := by simp [netL]
theorem netL_lt16 {g : List (List Int)} (h : GOk g) : ∀ s ∈ netL g, s < 65536 := netL_lt h
theorem sg_nil' (w : World) (base : Nat) : SG w base (.agg #[.slice none 0 0]) [] := ⟨_, [], rfl, rfl, World.ownsRow_nil _ _ _ _, fun j hj => by simp at hj⟩
theorem dg_nil' (w : World) (base : Nat) : DG w base (.agg #[.slice none 0 0]) [] := ⟨_, [], rfl, rfl, World.ownsRow_nil _ _ _ _, ⟨fun j hj => by simp at hj, fun i j hi => by simp at hi⟩⟩

set_option maxRecDepth 100000 in
set_option maxHeartbeats 2000000 in
theorem specRenamed_any (v lv : Value) (g : List (List Int)) (l : List Int) (w : World) (hg : Gr w v g) (hn : Nums w 2 .i64 lv l) :
    Calls Tryd.prog 46 #[v, lv] w fun e w' => ∃ (u : Value) (gg : List (List Int)) (ok : Bool), e = .returned (.tuple #[u, .bool ok]) ∧ RenS g l gg ok ∧ SG w' w.heap.size u gg ∧ gg.length ≤ 16 ∧ (∀ j, (row gg j).length ≤ 16) ∧ Below w.heap.size w w' := by
  have hg0 := hg
  obtain ⟨u, rfl, hr⟩ := hg
  obtain ⟨p, c, rfl, _⟩ := hr.shape
  obtain ⟨lp, lc, rfl, _⟩ := id hn.shape
  have hbA := Lib.hid (below_alloc2 w (.cells #[.slice p g.length c] 29) (.cells #[.slice none 0 0] 29))
  have BX := Lib.hid ((Box.new w (.slice p g.length c) 29).alloc (.cells #[.slice none 0 0] 29))
  have BN : Hid (Box ((w.alloc (.cells #[.slice p g.length c] 29)).alloc (.cells #[.slice none 0 0] 29)) (w.heap.size + 1) 29 (.slice none 0 0)) := by
    have := Box.new (w.alloc (.cells #[.slice p g.length c] 29)) (.slice none 0 0) 29
    rw [size_alloc] at this
    exact Lib.hid this
  have HG := Lib.hid (hg0.below hbA.out)
  have HN := Lib.hid (hn.below hbA.out)
  have h0 := hbA.out.size
  clear hr hg0 hn
  by_cases hok : GOk g ∧ OrdOk g.length l
  case neg =>
    have hd := dec_false hok
    have Hok := Lib.hid hok
    clear hok
    go_enter Tryd.func46, Tryd.ntmps46
    go_wp2_with (go_at_call 134; refine (specOrderOk_any _ _ g l _ HG.out HN.out).mono ?_; rintro e w2 ⟨rfl, hb2⟩; obtain ⟨nc, nf, nl, nB⟩ := BN.out.keep hb2)
    refine bodyPost_ret (v := .tuple #[.agg #[.slice none 0 0], .bool false]) (by simp [results, Tryd.results46, go_sem, nc]) rfl ⟨_, [], false, rfl, .inr ⟨rfl, rfl, Hok.out⟩, sg_nil' _ _, by simp, fun j => by simp [row], ?_⟩
    exact (hbA.out.trans (hb2.mono hbA.out.size)).setCell (by show w.heap.size ≤ w.heap.size + 1; omega) _
  have hd := dec_true hok
  have hle := hok.1.le
  have hll16 : l.length ≤ 16 := by have := hok.2.1; omega
  have Hok := Lib.hid hok
  have HE := Lib.hid (ordE_sym hok.1 hok.2)
  have HL := Lib.hid hok.2.2.1
  clear hok
  go_enter Tryd.func46, Tryd.ntmps46
  go_wp2_with (first
    | (go_at_call 134; refine (specOrderOk_any _ _ g l _ HG.out HN.out).mono ?_; rintro e w2 ⟨rfl, hb2⟩; have hbx := (BX.out.keep hb2).cell)
    | (go_at_call 107; refine (l2Of_any _ _ g l HL.out (by omega) HE.out _ (HG.out.below hb2) (HN.out.below hb2)).mono ?_; rintro e w3 ⟨u3, rfl, hs3, hb3⟩; obtain ⟨p3, c3, rfl⟩ := hs3.shape; obtain ⟨mc, mf, ml, mB⟩ := (BN.out.keep hb2).keep hb3))
  have hi2 : (indL g l).length = l.length := matG_length _ _
  have h2 := hb2.size
  rw [size_alloc, size_alloc] at h2
  refine bodyPost_ret (v := .tuple #[.agg #[.slice p3 (indL g l).length c3], .bool true]) (by simp [results, Tryd.results46, go_sem, mc]) rfl ⟨_, _, true, rfl, .inl ⟨rfl, Hok.out.1, Hok.out.2, rfl⟩, (hs3.setBox ⟨mc, mf, ml, mB⟩ _).base (by omega), by omega, fun j => Nat.le_trans (matG_row_le j) (by omega), ?_⟩
  exact ((hbA.out.trans (hb2.mono hbA.out.size)).trans (hb3.mono (by omega))).setCell (by show w.heap.size ≤ w.heap.size + 1; omega) _

set_option maxRecDepth 100000 in
set_option maxHeartbeats 2000000 in
theorem implRenamed_any (v lv : Value) (g : List (List Int)) (l : List Int) (w : World) (hg : Gr w v g) (hn : Nums w 2 .i64 lv l) (hT : Tab w) :
    Calls Tryd.prog 37 #[v, lv] w fun e w' => ∃ (u : Value) (gg : List (List Int)) (ok : Bool), e = .returned (.tuple #[u, .bool ok]) ∧ RenS g l gg ok ∧ DG w' w.heap.size u gg ∧ gg.length ≤ 16 ∧ (∀ j, (row gg j).length ≤ 16) ∧ Below w.heap.size w w' := by
  have hg0 := hg
  obtain ⟨u, rfl, hr⟩ := hg
  obtain ⟨p, c, rfl, _⟩ := hr.shape
  obtain ⟨lp, lc, rfl, _⟩ := id hn.shape
  have hbA := Lib.hid (below_alloc2 w (.cells #[.slice p g.length c] 29) (.cells #[.slice none 0 0] 29))
  have BX := Lib.hid ((Box.new w (.slice p g.length c) 29).alloc (.cells #[.slice none 0 0] 29))
  have BN : Hid (Box ((w.alloc (.cells #[.slice p g.length c] 29)).alloc (.cells #[.slice none 0 0] 29)) (w.heap.size + 1) 29 (.slice none 0 0)) := by
    have := Box.new (w.alloc (.cells #[.slice p g.length c] 29)) (.slice none 0 0) 29
    rw [size_alloc] at this
    exact Lib.hid this
  have HG := Lib.hid (hg0.below hbA.out)
  have HN := Lib.hid (hn.below hbA.out)
  have HT := Lib.hid (hT.keep hbA.out)
  have h0 := hbA.out.size
  clear hr hg0 hn hT
  by_cases hok : GOk g ∧ OrdOk g.length l
  case neg =>
    have hd := dec_false hok
    have Hok := Lib.hid hok
    clear hok
    go_enter Tryd.func37, Tryd.ntmps37
    go_wp2_with (go_at_call 115; refine (implOrderOk_any _ _ g l _ HG.out HN.out).mono ?_; rintro e w2 ⟨rfl, hb2⟩; obtain ⟨nc, nf, nl, nB⟩ := BN.out.keep hb2)
    refine bodyPost_ret (v := .tuple #[.agg #[.slice none 0 0], .bool false]) (by simp [results, Tryd.results37, go_sem, nc]) rfl ⟨_, [], false, rfl, .inr ⟨rfl, rfl, Hok.out⟩, dg_nil' _ _, by simp, fun j => by simp [row], ?_⟩
    exact (hbA.out.trans (hb2.mono hbA.out.size)).setCell (by show w.heap.size ≤ w.heap.size + 1; omega) _
  have hd := dec_true hok
  have hle := hok.1.le
  have hll16 : l.length ≤ 16 := by have := hok.2.1; omega
  have Hok := Lib.hid hok
  obtain ⟨ln, hln⟩ : ∃ ln, ln = l.map Int.toNat := ⟨_, rfl⟩
  have hlN : natInts ln = l := by rw [hln]; exact natInts_toNat fun x hx => (hok.2.2.1 x hx).1
  have hlnl := Lib.hid (show ln.length = l.length by rw [hln, List.length_map])
  have hln16 : ln.length ≤ 16 := by have := hlnl.out; omega
  have hlt : ∀ v ∈ ln, v < (netL g).length := fun v hv => by
    rw [hln] at hv
    obtain ⟨x, hx, rfl⟩ := List.mem_map.1 hv
    have := hok.2.2.1 x hx
    rw [netL_len]; omega
  have HLN := Lib.hid hlN
  have HLT := Lib.hid hlt
  clear hok hln hlN hlt
  go_enter Tryd.func37, Tryd.ntmps37
  go_wp2_with (first
    | (go_at_call 115; refine (implOrderOk_any _ _ g l _ HG.out HN.out).mono ?_; rintro e w2 ⟨rfl, hb2⟩; have hbx := (BX.out.keep hb2).cell)
    | (go_at_call 89; refine (netsOf_any _ g _ (HG.out.below hb2) Hok.out.1).mono ?_; rintro e w3 ⟨x, rfl, hown3, hb3⟩; have HX3 : Hid (Sl w3 70 x (netL g).length ((netL g).map u32v)) := Lib.hid (by rw [netL_len]; exact Sl.of_owns hown3 (by omega)); clear hown3)
    | (go_at_call 117; refine (narrow_any _ l _ ((HN.out.below hb2).below hb3)).mono ?_; rintro e w4 ⟨nv, rfl, hown4, hb4⟩; have HN4 : Hid (Nums w4 3 .i64 nv (natInts ln)) := Lib.hid (by rw [HLN.out]; exact Nums.of_owns hown4 rfl (by omega)); clear hown4)
    | (go_at_call 116; refine (induced_any _ _ (netL g) ln (by rw [netL_len]; exact hle) (netL_lt16 Hok.out.1) HLT.out (by omega) _ (HX3.out.below hb4) HN4.out).mono ?_; rintro e w5 ⟨u5, rfl, ho5, hb5⟩; have HX5 : Hid (Sl w5 70 u5 (indN ln.length (bitE (netL g) ln)).length ((indN ln.length (bitE (netL g) ln)).map u32v)) := Lib.hid (by rw [indN_length]; exact Sl.of_owns ho5 (by omega)); clear ho5)
    | (go_at_call 118; refine (graph_any _ (indN ln.length (bitE (netL g) ln)) (indN_lt16 (by omega)) (by rw [indN_length]; omega) _ HX5.out ((((HT.out.keep hb2).keep hb3).keep hb4).keep hb5)).mono ?_; rintro e w6 ⟨u6, rfl, hd6, hb6⟩; obtain ⟨p6, c6, rfl⟩ := hd6.shape; obtain ⟨mc, mf, ml, mB⟩ := ((((BN.out.keep hb2).keep hb3).keep hb4).keep hb5).keep hb6))
  have e6 : rowsOf (indN ln.length (bitE (netL g) ln)) = indL g l := by
    rw [rowsOf_indN (by omega), ← HLN.out, bitE_netL Hok.out.1 (fun v hv => by have := HLT.out v hv; rw [netL_len] at this; exact this)]
  have hi2 : (indL g l).length = ln.length := by unfold indL; rw [matG_length]; exact hlnl.out.symm
  have s2 := hb2.size
  rw [size_alloc, size_alloc] at s2
  have s3 := hb3.size
  have s4 := hb4.size
  have s5 := hb5.size
  rw [e6, hi2] at hd6
  refine bodyPost_ret (v := .tuple #[.agg #[.slice p6 ln.length c6], .bool true]) (by simp [results, Tryd.results37, go_sem, mc, rowsOf_length, indN_length]) rfl ⟨_, _, true, rfl, .inl ⟨rfl, Hok.out.1, Hok.out.2, rfl⟩, (hd6.setBox ⟨mc, mf, ml, mB⟩ _).base (by omega), by omega, fun j => Nat.le_trans (matG_row_le j) (by omega), ?_⟩
  exact (((((hbA.out.trans (hb2.mono h0)).trans (hb3.mono (by omega))).trans (hb4.mono (by omega))).trans (hb5.mono (by omega))).trans (hb6.mono (by omega))).setCell (by show w.heap.size ≤ w.heap.size + 1; omega) _

end Go.Proofs.YtkppbmfliejnmaaDoor
