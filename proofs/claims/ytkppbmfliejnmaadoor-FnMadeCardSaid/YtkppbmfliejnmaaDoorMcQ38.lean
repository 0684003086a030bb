/- Walks: orders of all vertices, of both; a row of numbers narrowed. -/
import Derived.Test.YtkppbmfliejnmaaDoorMcQ37
import Derived.Deep.RegionHeld3
import Derived.Deep.DeepCutAuto
import Derived.Deep.RegionLaw
import Derived.Test.YtkppbmfliejnmaaDoorMcQ36
namespace Go.Proofs.YtkppbmfliejnmaaDoor
open Go.RowKit

set_option maxRecDepth 100000 in
set_option maxHeartbeats 1000000 in
theorem narrow_any (v : Value) (xs : List Int) (w : World) (hx : Nums w 2 .i64 v xs) :
    Calls Tryd.prog 117 #[v] w fun e w' => ∃ u, e = .returned u ∧
      w'.ownsRow w.heap.size 3 1 u xs.length (xs.map (Value.int .i64)) ∧ Below w.heap.size w w' := by
  obtain ⟨p, c, rfl, _, _, hn, hat⟩ := hx
  go_enter Tryd.func117, Tryd.ntmps117
  go_wp2_with (at_make; refine wpList_mk0 ty_int rfl rfl xs.length rfl rfl rfl hn ?_; intro w1 hown1 hg1)
  have hb1 := grown_below hg1
  clear hg1
  go_loopw [3, 5, 11] (fun u _ i wr => ∃ k : Nat, k ≤ xs.length ∧ i = .int .i64 k ∧ wr.ownsRow w.heap.size 3 1 u k ((xs.take k).map (Value.int .i64)) ∧ Below w.heap.size w wr)
    (fun _ _ i _ => xs.length - (intOf i).toNat)
  case atStart => exact ⟨0, Nat.zero_le _, rfl, by simpa using hown1, hb1⟩
  case round =>
    obtain ⟨k, hk, rfl, hown, hbel⟩ := hrel
    clear hown1 hb1
    by_cases hlt : k < xs.length
    · obtain ⟨b, o, rfl, hc⟩ := hat.num hlt
      have hcell := (hbel.cell (p := ⟨b, o + k, none⟩) (World.block_lt_of_cell? w _ hc)).trans hc
      have ht := Lib.hid (take_snoc xs k hlt)
      have hsz := hbel.size
      clear hc hat
      go_wp2_with (at_builtin; refine wpList_app1 ty_int rfl rfl rfl hown rfl rfl (by omega) hsz ?_; intro v' w1 hown' hg _)
      go_roundw
      case rel =>
        refine ⟨k + 1, by omega, by go_num, ?_, below_grown hbel hown hg (Nat.le_refl _) hsz⟩
        rw [ht.out, List.map_append]; exact hown'
      case measure => simp [intOf]; omega
    · obtain rfl : k = xs.length := by omega
      go_wp2
      go_ret
      rw [List.take_length] at hown
      exact ⟨_, rfl, hown, hbel⟩

set_option maxRecDepth 100000 in
theorem l1There_any (v : Value) (g : List (List Int)) (x : Int) (w : World) (hg : Gr w v g) (hn : g.length ≤ 1000000000) :
    Calls Tryd.prog 108 #[v, .int .i64 x] w fun e w' => e = .returned (.bool (dec (0 ≤ x ∧ x < g.length))) ∧ Below w.heap.size w w' := by
  have hg0 := hg
  obtain ⟨u, rfl, hr⟩ := hg
  obtain ⟨p, c, rfl, _⟩ := hr.shape
  have hbA := Lib.hid (below_alloc w (.cells #[.slice p g.length c] 29))
  have HG := Lib.hid (hg0.below hbA.out)
  clear hr hg0
  go_enter Tryd.func108, Tryd.ntmps108
  go_wp2_with (first
    | (go_at_call 153; refine (l1In_any _ _ _ _).mono ?_; rintro e w3 ⟨rfl, rfl⟩)
    | (go_at_call 132; refine (l1Size_any _ g _ HG.out).mono ?_; rintro e w2 ⟨rfl, hb2⟩))
  go_ret
  exact ⟨ret_bool (dec_congr (by omega)), hbA.out.trans (hb2.mono hbA.out.size)⟩

set_option maxRecDepth 100000 in
set_option maxHeartbeats 4000000 in
theorem l1Order_any (v lv : Value) (g : List (List Int)) (l : List Int) (hgl : g.length ≤ 1000000000) (w : World) (hg : Gr w v g) (hn : Nums w 2 .i64 lv l) :
    Calls Tryd.prog 203 #[v, lv] w fun e w' => e = .returned (.bool (dec (OrdOk g.length l))) ∧ Below w.heap.size w w' := by
  have hg0 := hg
  obtain ⟨u, rfl, hr⟩ := hg
  obtain ⟨p, c, rfl, _⟩ := hr.shape
  obtain ⟨lp, lc, rfl, hlp, hlc, hll, _⟩ := id hn.shape
  have hbA := Lib.hid (below_alloc w (.cells #[.slice p g.length c] 29))
  have BX := Lib.hid (Box.new w (.slice p g.length c) 29)
  have HG := Lib.hid (hg0.below hbA.out)
  have HN := Lib.hid (hn.below hbA.out)
  clear hr hg0 hn hlp
  by_cases hlen : l.length = g.length
  case neg =>
    have hne : ((l.length : Int) != (g.length : Int)) = true := by simp; omega
    go_enter Tryd.func203, Tryd.ntmps203
    go_wp2_with (go_at_call 132; refine (l1Size_any _ g _ HG.out).mono ?_; rintro e w2 ⟨rfl, hb2⟩)
    go_ret
    exact ⟨ret_bool (false_dec fun h => hlen h.1), hbA.out.trans (hb2.mono hbA.out.size)⟩
  have hne : ((l.length : Int) != (g.length : Int)) = false := by simp; omega
  have Hlen := Lib.hid hlen
  clear hlen
  go_enter Tryd.func203, Tryd.ntmps203
  go_wp2_with (go_at_call 132; refine (l1Size_any _ g _ HG.out).mono ?_; rintro e w2 ⟨rfl, hb2⟩)
  have HB2 := Lib.hid hb2
  have hsA := hbA.out.size
  clear hb2
  go_loopw [5] (fun i wr => ∃ k : Nat, k ≤ l.length ∧ i = .int .i64 k ∧ (∀ x ∈ l.take k, 0 ≤ x ∧ x < g.length) ∧ (l.take k).Nodup ∧ Below (w.alloc (.cells #[.slice p g.length c] 29)).heap.size (w.alloc (.cells #[.slice p g.length c] 29)) wr) (fun i _ => l.length - (intOf i).toNat)
  case atStart => exact ⟨0, Nat.zero_le _, rfl, by simp, by simp, HB2.out⟩
  case round =>
    obtain ⟨k, hk, rfl, hin, hnd, hbel⟩ := hrel
    have Hin := Lib.hid hin
    have Hnd := Lib.hid hnd
    have HBw := Lib.hid (hbA.out.trans (hbel.mono hsA))
    clear hin hnd
    by_cases hlt : k < l.length
    · have hn' := Lib.hid (HN.out.below hbel)
      obtain ⟨b, o, rfl, hc⟩ := hn'.out.get hlt
      have hbx := (BX.out.keep hbel).cell
      have hGr := Lib.hid (HG.out.below hbel)
      have hpre : Hid (Nums wr 2 .i64 (.slice (some ⟨b, o, none⟩) k lc) (l.take k)) := by
        obtain ⟨_, _, e1, _, _, _, hat⟩ := id hn'.out.shape
        cases e1
        have hlk : (l.take k).length = k := by rw [List.length_take]; omega
        refine Lib.hid ⟨_, _, by rw [hlk], (fun e => by cases e), by omega, by omega, ?_⟩
        rw [List.map_take]
        exact hat.take k
      have hx := Lib.hid (take_snoc l k hlt)
      have e0 : (0 : Int) ≤ (k : Int) := by omega
      have e1 : (k : Int) ≤ (lc : Int) := by omega
      have e2 : k ≤ lc := by omega
      have HBel := Lib.hid hbel
      clear hbel
      generalize hX : l[k] = X at hc hx
      by_cases hX1 : 0 ≤ X ∧ X < g.length
      case neg =>
        have hd := dec_false hX1
        have HX1 := Lib.hid hX1
        have hmem : Hid (X ∈ l) := Lib.hid (hX ▸ List.getElem_mem hlt)
        clear hX1 hX
        go_upto_region 6 with fail
        go_cut [33] (fun s wx => s = .bool true ∧ Below wr.heap.size wr wx)
        case first =>
          refine wp_region_held_drew (S := fun w' => w'.cell? ⟨w.heap.size, 0, none⟩ = some (.slice p g.length c) ∧ w'.cell? ⟨b, o + k, none⟩ = some (.int .i64 X)) (by kernel_rfl) ?_ (fun hHeld => ?_)
          · exact ⟨hbx, hc⟩
          refine wpAnyH_take (i := 0) (v := .agg #[.slice p g.length c]) rfl (by kernel_rfl) (by kernel_rfl) (by kernel_rfl) (fun _ _ _ h => h) (Or.inl ⟨by rfl, ?_⟩) (by assumption) ?_
          · intro wz hSw; (try dsimp only at hSw); go_simp; try rfl
          try simp only [Act.put, List.setIfInBounds_toArray, List.set_cons_zero, List.set_cons_succ]
          refine wpAnyH_take (i := 1) (v := .slice (some ⟨b, o, none⟩) l.length lc) rfl (by kernel_rfl) (by kernel_rfl) (by kernel_rfl) (fun _ _ _ h => h) (Or.inl ⟨by rfl, ?_⟩) (by assumption) ?_
          · intro wz hSw; (try dsimp only at hSw); go_simp; try rfl
          try simp only [Act.put, List.setIfInBounds_toArray, List.set_cons_zero, List.set_cons_succ]
          refine wpAnyH_take (i := 2) (v := .int .i64 k) rfl (by kernel_rfl) (by kernel_rfl) (by kernel_rfl) (fun _ _ _ h => h) (Or.inl ⟨by rfl, ?_⟩) (by assumption) ?_
          · intro wz hSw; (try dsimp only at hSw); go_simp; try rfl
          try simp only [Act.put, List.setIfInBounds_toArray, List.set_cons_zero, List.set_cons_succ]
          refine wpAnyH_take (i := 3) (v := .pointer (some ⟨b, o + k, none⟩)) rfl (by kernel_rfl) (by kernel_rfl) (by kernel_rfl) (fun _ _ _ h => h) (Or.inl ⟨by rfl, ?_⟩) (by assumption) ?_
          · intro wz hSw; (try dsimp only at hSw); go_simp; try rfl
          try simp only [Act.put, List.setIfInBounds_toArray, List.set_cons_zero, List.set_cons_succ]
          refine wpAnyH_take (i := 4) (v := .int .i64 X) rfl (by kernel_rfl) (by kernel_rfl) (by kernel_rfl) (fun _ _ _ h => h) (Or.inl ⟨by rfl, ?_⟩) (by assumption) ?_
          · intro wz hSw; (try dsimp only at hSw); go_simp; try rfl
          try simp only [Act.put, List.setIfInBounds_toArray, List.set_cons_zero, List.set_cons_succ]
          refine wpAnyH_ready (rs := [5]) (by kernel_rfl) (by simp) ?_
          refine AllReadyH.cons rfl (fun K hK => ?_) AllReadyH.nil
          go_simp
          go_at_call 108
          refine (l1There_any _ g X _ (hGr.out.below (below_dN (Below.refl _ _) 1)) hgl).mono ?_
          rintro e w4 ⟨he4, hb4⟩
          rw [hd] at he4
          subst he4
          have hb4' : Below wr.heap.size wr w4 := (below_dN (Below.refl _ _) 1).trans hb4
          refine hK.out _ _ ?_ (fun hHeld => ?_)
          · exact ⟨hb4'.at' hbx, hb4'.at' hc⟩
          clear hK K
          try simp only [Act.put, List.setIfInBounds_toArray, List.set_cons_zero, List.set_cons_succ]
          refine wpAnyH_take (i := 6) (v := .bool true) rfl (by kernel_rfl) (by kernel_rfl) (by kernel_rfl) (fun _ _ _ h => h) (Or.inl ⟨by rfl, ?_⟩) (by assumption) ?_
          · intro wz hSw; (try dsimp only at hSw); go_simp; try rfl
          try simp only [Act.put, List.setIfInBounds_toArray, List.set_cons_zero, List.set_cons_succ]
          refine wpAnyH_take (i := 7) (v := .bool true) rfl (by kernel_rfl) (by kernel_rfl) (by kernel_rfl) (fun _ _ _ h => h) (Or.inl ⟨by rfl, ?_⟩) (by assumption) ?_
          · intro wz hSw; (try dsimp only at hSw); go_simp; try rfl
          try simp only [Act.put, List.setIfInBounds_toArray, List.set_cons_zero, List.set_cons_succ]
          refine wpAnyH_take (i := 8) (v := undef) rfl (by kernel_rfl) (by kernel_rfl) (by kernel_rfl) (fun _ _ _ h => h) (Or.inr ⟨by kernel_rfl, rfl⟩) (by assumption) ?_
          try simp only [Act.put, List.setIfInBounds_toArray, List.set_cons_zero, List.set_cons_succ]
          refine wpAnyH_take (i := 9) (v := undef) rfl (by kernel_rfl) (by kernel_rfl) (by kernel_rfl) (fun _ _ _ h => h) (Or.inr ⟨by kernel_rfl, rfl⟩) (by assumption) ?_
          try simp only [Act.put, List.setIfInBounds_toArray, List.set_cons_zero, List.set_cons_succ]
          refine wpAnyH_take (i := 10) (v := undef) rfl (by kernel_rfl) (by kernel_rfl) (by kernel_rfl) (fun _ _ _ h => h) (Or.inr ⟨by kernel_rfl, rfl⟩) (by assumption) ?_
          try simp only [Act.put, List.setIfInBounds_toArray, List.set_cons_zero, List.set_cons_succ]
          refine wpAnyH_take (i := 11) (v := undef) rfl (by kernel_rfl) (by kernel_rfl) (by kernel_rfl) (fun _ _ _ h => h) (Or.inr ⟨by kernel_rfl, rfl⟩) (by assumption) ?_
          try simp only [Act.put, List.setIfInBounds_toArray, List.set_cons_zero, List.set_cons_succ]
          refine wpAnyH_take (i := 12) (v := undef) rfl (by kernel_rfl) (by kernel_rfl) (by kernel_rfl) (fun _ _ _ h => h) (Or.inr ⟨by kernel_rfl, rfl⟩) (by assumption) ?_
          try simp only [Act.put, List.setIfInBounds_toArray, List.set_cons_zero, List.set_cons_succ]
          refine wpAnyH_take (i := 13) (v := undef) rfl (by kernel_rfl) (by kernel_rfl) (by kernel_rfl) (fun _ _ _ h => h) (Or.inr ⟨by kernel_rfl, rfl⟩) (by assumption) ?_
          try simp only [Act.put, List.setIfInBounds_toArray, List.set_cons_zero, List.set_cons_succ]
          refine wpAnyH_take (i := 14) (v := undef) rfl (by kernel_rfl) (by kernel_rfl) (by kernel_rfl) (fun _ _ _ h => h) (Or.inr ⟨by kernel_rfl, rfl⟩) (by assumption) ?_
          try simp only [Act.put, List.setIfInBounds_toArray, List.set_cons_zero, List.set_cons_succ]
          refine wpAnyH_take (i := 15) (v := undef) rfl (by kernel_rfl) (by kernel_rfl) (by kernel_rfl) (fun _ _ _ h => h) (Or.inr ⟨by kernel_rfl, rfl⟩) (by assumption) ?_
          simp only [Act.put, List.getElem_toArray, List.getElem_cons_succ, List.getElem_cons_zero, List.setIfInBounds_toArray, List.set_cons_zero, List.set_cons_succ]
          refine wpAnyH_take (i := 16) (v := .bool true) rfl (by kernel_rfl) (by kernel_rfl) (by kernel_rfl) (fun _ _ _ h => h) (Or.inl ⟨by rfl, ?_⟩) (by assumption) ?_
          · intro wz hSw; (try dsimp only at hSw); go_simp; try rfl
          simp only [Act.put, List.getElem_toArray, List.getElem_cons_succ, List.getElem_cons_zero, List.setIfInBounds_toArray, List.set_cons_zero, List.set_cons_succ]
          refine wpAnyH_done (by kernel_rfl) ?_ _
          go_wp2
          go_meet
          exact ⟨by kernel_rfl, hb4'⟩
        case rest =>
          obtain ⟨rfl, hbc⟩ := hcut
          go_wp2
          go_ret
          exact ⟨ret_bool (false_dec fun h => HX1.out (h.2.1 _ hmem.out)), HBw.out.trans (hbc.mono HBw.out.size)⟩
      have hd := dec_true hX1
      have HX1 := Lib.hid hX1
      clear hX1
      by_cases hX2 : X ∈ l.take k
      case pos =>
        have hd2 := dec_true hX2
        have hnot : Hid (¬ l.Nodup) := Lib.hid (fun h => by
          have h1 : (l.take (k + 1)).Nodup := h.sublist (List.take_sublist _ _)
          rw [hx.out] at h1
          exact (nodup_snoc.1 h1).2 hX2)
        clear hX2 hX
        go_upto_region 6 with fail
        go_cut [33] (fun s wx => s = .bool true ∧ Below wr.heap.size wr wx)
        case first =>
          go_region_held3 (fun w' => w'.cell? ⟨w.heap.size, 0, none⟩ = some (.slice p g.length c) ∧ w'.cell? ⟨b, o + k, none⟩ = some (.int .i64 X))
            (first | go_keep | exact ⟨hb4'.at' hbx, hb4'.at' hc⟩)
            (first | (go_at_call 108; refine (l1There_any _ g X _ (hGr.out.below (below_dN (Below.refl _ _) 1)) hgl).mono ?_; rintro e w4 ⟨he4, hb4⟩; rw [hd] at he4; subst he4; have hb4' : Below wr.heap.size wr w4 := (below_dN (Below.refl _ _) 1).trans hb4) | (go_at_call 158; refine (l1Has_any _ _ X _ (hpre.out.below hb4')).mono ?_; rintro e w5 ⟨he5, rfl⟩; rw [hd2] at he5; subst he5))
          all_goals go_wp2
          all_goals go_meet
          all_goals exact ⟨rfl, hb4'⟩
        case rest =>
          obtain ⟨rfl, hbc⟩ := hcut
          go_wp2
          go_ret
          exact ⟨ret_bool (false_dec fun h => hnot.out h.2.2), HBw.out.trans (hbc.mono HBw.out.size)⟩
      case neg =>
        have hd2 := dec_false hX2
        have HX2 := Lib.hid hX2
        clear hX2 hX
        go_upto_region 6 with fail
        go_cut [33] (fun s wx => s = .bool false ∧ Below wr.heap.size wr wx)
        case first =>
          go_region_held3 (fun w' => w'.cell? ⟨w.heap.size, 0, none⟩ = some (.slice p g.length c) ∧ w'.cell? ⟨b, o + k, none⟩ = some (.int .i64 X))
            (first | go_keep | exact ⟨hb4'.at' hbx, hb4'.at' hc⟩)
            (first | (go_at_call 108; refine (l1There_any _ g X _ (hGr.out.below (below_dN (Below.refl _ _) 1)) hgl).mono ?_; rintro e w4 ⟨he4, hb4⟩; rw [hd] at he4; subst he4; have hb4' : Below wr.heap.size wr w4 := (below_dN (Below.refl _ _) 1).trans hb4) | (go_at_call 158; refine (l1Has_any _ _ X _ (hpre.out.below hb4')).mono ?_; rintro e w5 ⟨he5, rfl⟩; rw [hd2] at he5; subst he5))
          all_goals go_wp2
          all_goals go_meet
          all_goals exact ⟨rfl, hb4'⟩
        case rest =>
          obtain ⟨rfl, hbc⟩ := hcut
          go_wp2
          go_roundw
          case rel =>
            have hbel' := HBel.out
            refine ⟨k + 1, by omega, by go_num, ?_, ?_, hbel'.trans (hbc.mono hbel'.size)⟩
            · rw [hx.out]
              intro x hxm
              rcases List.mem_append.1 hxm with h | h
              · exact Hin.out x h
              · simp only [List.mem_singleton] at h; subst h; exact HX1.out
            · rw [hx.out]
              exact nodup_snoc.2 ⟨Hnd.out, HX2.out⟩
          case measure => simp [intOf]; omega
    · obtain rfl : k = l.length := by omega
      go_wp2
      go_ret
      have h1 := Hin.out
      have h2 := Hnd.out
      rw [List.take_length] at h1 h2
      exact ⟨ret_bool (true_dec ⟨Hlen.out, h1, h2⟩), HBw.out⟩

end Go.Proofs.YtkppbmfliejnmaaDoor

/- Walks: the reference's parts with rows of their own, DistancesFrom (printed by wip/mkMaD.py out of XPsB). -/
namespace Go.Proofs.YtkppbmfliejnmaaDoor
open Go.RowKit

/-- A row of rows, all of them the call's own. -/
def SO (w : World) (base : Nat) (r : Value) (ps : List (List Nat)) : Prop :=
  ∃ vals, vals.length = ps.length ∧ w.ownsRow base 33 1 r ps.length vals ∧ ∀ j, j < ps.length → w.ownsRow base 2 1 (vals.getD j undef) (ps.getD j []).length ((natInts (ps.getD j [])).map (Value.int .i64))
theorem SO.next {w w' : World} {base : Nat} {r : Value} {ps : List (List Nat)} (h : SO w base r ps) (hb : Below w.heap.size w w') : SO w' base r ps := by
  obtain ⟨vals, h1, h2, h3⟩ := h
  exact ⟨vals, h1, ownsRow_below h2 hb, fun j hj => ownsRow_below (h3 j hj) hb⟩
theorem SO.base {w : World} {base base' : Nat} {r : Value} {ps : List (List Nat)} (h : SO w base r ps) (hb : base' ≤ base) : SO w base' r ps := by
  obtain ⟨vals, h1, h2, h3⟩ := h
  exact ⟨vals, h1, ownsRow_base h2 hb, fun j hj => ownsRow_base (h3 j hj) hb⟩
set_option maxRecDepth 100000 in
set_option maxHeartbeats 4000000 in
theorem l3PartsO_any (v lv : Value) (g : List (List Int)) (L : List Nat) (hok : GOk g) (hL16 : L.length ≤ 16) (hL : L.Pairwise (· < ·)) (hLn : ∀ x ∈ L, x < g.length) (w : World) (hg : Gr w v g) (hl : Nums w 2 .i64 lv (natInts L)) :
    Calls Tryd.prog 147 #[v, lv] w fun e w' => ∃ (r : Value) (ps : List (List Nat)), e = .returned r ∧ Parts (ofG g) L ps ∧ SO w' w.heap.size r ps ∧ ps.length ≤ 16 ∧ (∀ l ∈ ps, l.Pairwise (· < ·) ∧ ∀ x ∈ l, x ∈ L) ∧ Below w.heap.size w w' := by
  obtain ⟨lp, lc, rfl, _⟩ := id hl.shape
  have hg0 := hg
  obtain ⟨g0, rfl, hr⟩ := hg
  obtain ⟨p, c, rfl, _⟩ := hr.shape
  have HG := Lib.hid hg0
  clear hr hg0
  have HN := Lib.hid hl
  have HLN := Lib.hid hLn
  have HOK := Lib.hid hok
  have HSY := Lib.hid (ofG_sym hok)
  clear hl hLn hok
  go_enter Tryd.func147, Tryd.ntmps147
  go_wp2
  go_loopw [5, 6, 7] (fun o d i wr => ∃ ps D G k vals, k ≤ L.length ∧ i = .int .i64 k ∧ PqW w wr (w.heap.size + 1) (.slice p g.length c) (ofG g) L o d ps D G k vals) (fun _ _ i _ => L.length - (intOf i).toNat)
  case atStart =>
    have s1 : (w.alloc (.cells #[.slice p g.length c] 29)).heap.size = w.heap.size + 1 := by show (w.heap.push _).size = _; simp
    have s2 : ((w.alloc (.cells #[.slice p g.length c] 29)).alloc (.cells #[] 33)).heap.size = w.heap.size + 1 + 1 := by show (Array.push _ _).size = _; rw [Array.size_push, s1]
    refine ⟨[], [], [], 0, [], Nat.zero_le _, rfl, PaI.start' _ _, fun x => Iff.rfl, by simp, rfl, ?_, fun j hj => by simp at hj, ?_, ?_, ?_, by omega, ?_⟩
    · exact ownsRow_below (ownsRow_empty' w _ _ _ _ (Nat.le_refl _)) (below_alloc _ _)
    · have := ownsRow_empty ((w.alloc (.cells #[.slice p g.length c] 29)).alloc (.cells #[] 33)) 2 1
      rw [s2] at this
      exact ownsRow_base this (by omega)
    · exact ((below_alloc w _).alloc (below_alloc w _).size _).alloc (by omega) _
    · exact ((Box.new w _ 29).alloc _).alloc _
    · rw [size_alloc, s2]; omega
  case round =>
    obtain ⟨ps, D, G, k, vals, hk, rfl, hI⟩ := hrel
    obtain ⟨op, oc, rfl⟩ := owns_shapeR hI.out
    obtain ⟨dp, dc, rfl⟩ := owns_shapeR hI.dn
    have hbel := hI.bel
    have hsz := hbel.size
    have HN1 := HN.out.below hbel
    have hlL : (natInts L).length = L.length := natInts_length L
    rw [hlL] at HN1 ⊢
    have HI := Lib.hid hI
    by_cases hlt : k < L.length
    · obtain ⟨lb, lo, rfl, hlc⟩ := HN1.get (k := k) (by rw [natInts_length]; exact hlt)
      rw [natInts_atQ hlt] at hlc
      have hmemL : L[k]'hlt ∈ L := List.getElem_mem hlt
      have HLT := Lib.hid hlt
      have HN2 := Lib.hid HN1
      have HB := Lib.hid hbel
      have HDN : Hid (Nums wr 2 .i64 (.slice dp D.length dc) (natInts D)) := Lib.hid (Nums.of_owns hI.dn (by rw [natInts_length]) (by have := hI.len; omega))
      generalize hy : L[k]'hlt = y at hlc hmemL
      have HY := Lib.hid hy
      have HML := Lib.hid hmemL
      clear hy hI HN1 hmemL hbel hlL
      by_cases hin : y ∈ D
      · have hd : dec ((y : Int) ∈ natInts D) = true := dec_true (mem_natInts.2 ⟨y, hin, rfl⟩)
        have HIN := Lib.hid hin
        clear hin
        go_wp2_with (go_at_call 158; refine (l1Has_any _ (natInts D) _ _ HDN.out).mono ?_; rintro e w4 ⟨he4, rfl⟩; rw [hd] at he4; subst he4)
        go_roundw
        case rel => exact ⟨ps, D, G, k + 1, vals, by omega, by go_num, HI.out.skip hlt (by rw [HY.out]; exact HIN.out)⟩
        case measure => simp [intOf]; omega
      · have hd : dec ((y : Int) ∈ natInts D) = false := dec_false (new_nat hin)
        have HIN := Lib.hid hin
        clear hin
        have hxc := HI.out.box.cell
        go_upto_region 7 with (go_at_call 158; refine (l1Has_any _ (natInts D) _ _ HDN.out).mono ?_; rintro e w4 ⟨he4, rfl⟩; rw [hd] at he4; subst he4)
        go_cut [8] (fun s wx => wx.ownsRow wr.heap.size 2 1 s (partL (ofG g) L y).length ((natInts (partL (ofG g) L y)).map (Value.int .i64)) ∧ Below wr.heap.size wr wx)
        case first =>
          go_region_held3 (fun w' => w'.cell? ⟨w.heap.size, 0, none⟩ = some (.slice p g.length c) ∧ w'.cell? ⟨lb, lo + k, none⟩ = some (.int .i64 y))
            (first | go_keep | exact ⟨hxc, hlc⟩ | exact ⟨BWA.at' hxc, BWA.at' hlc⟩)
            (first | (go_at_call 207; refine (l3Part_any _ _ _ g L y rfl HOK.out hL HLN.out HML.out _ (HG.out.below (HB.out.trans (below_dN (Below.refl _ _) 1))) (HN2.out.below (below_dN (Below.refl _ _) 1))).mono ?_; rintro e w5 ⟨pv, rfl, hp5, hb5⟩; have HP5 := Lib.hid (ownsRow_base (base' := wr.heap.size) hp5 (below_dN (Below.refl wr.heap.size wr) 1).size); have BWA : Below wr.heap.size wr w5 := (below_dN (Below.refl _ _) 1).trans hb5; clear hp5 hb5))
          all_goals go_wp2
          all_goals go_meet
          all_goals exact ⟨HP5.out, BWA⟩
        case rest =>
          obtain ⟨hp5, hb5⟩ := hcut
          obtain ⟨pp, pc, rfl⟩ := owns_shapeR hp5
          have HP5 := Lib.hid hp5
          have HB5 := Lib.hid hb5
          have H5 := Lib.hid (HI.out.next hb5)
          have hpl := HI.out.pa.len
          have hplen := partL_length (ofG g) L y
          have hdl := HI.out.len
          clear hp5 hb5 hxc hlc
          go_wp2_with (first
            | (at_builtin; refine wpList_app ty_i64 rfl rfl rfl HD7.out rfl HP7.out (by rw [List.length_map, natInts_length, Nat.mul_one]) (oneCell_ints _ _) (by omega) HS7.out ?_; intro d8 w8 hown8 hg8 hnew8)
            | (at_builtin; refine wpList_app1s ty_rows64 rfl rfl rfl H5.out.out rfl rfl (by omega) H5.out.hB2 ?_; intro b7 c7 w7 hown7 hg7 hb7; have HD7 := Lib.hid (ownsRow_other H5.out.dn H5.out.out hg7 (by decide)); have HP7 := Lib.hid (Sl.of_owns (ownsRow_other HP5.out H5.out.out hg7 (by decide)) (by omega)); have HS7 : Hid (w.heap.size + 1 ≤ w7.heap.size) := Lib.hid (Nat.le_trans H5.out.hB2 hg7.size)))
          go_roundw
          case rel => exact ⟨_, _, _, k + 1, _, by omega, by go_num, HI.out.take HSY.out hL hL16 HLT.out HY.out HIN.out HB5.out HP5.out hown7 hg7 hown8 hg8 hnew8⟩
          case measure => simp [intOf]; omega
    · obtain rfl : k = L.length := by omega
      go_wp2
      go_ret
      exact ⟨_, ps, rfl, HI.out.pa.done, ⟨vals, HI.out.vl, ownsRow_base HI.out.out (by omega), fun j hj => ownsRow_base (HI.out.rows j hj).1 (by omega)⟩, Nat.le_trans HI.out.pa.len hL16, HI.out.pa.all, hbel⟩


set_option maxRecDepth 100000 in
set_option maxHeartbeats 2000000 in
theorem specPartsO_yes (v : Value) (g : List (List Int)) (hok : GOk g) (w : World) (hg : Gr w v g) :
    Calls Tryd.prog 61 #[v] w fun e w' => ∃ (u : Value) (ps : List (List Nat)), e = .returned u ∧ Parts (ofG g) (List.range g.length) ps ∧ SO w' w.heap.size u ps ∧ Below w.heap.size w w' := by
  have hg0 := hg
  obtain ⟨u, rfl, hr⟩ := hg
  obtain ⟨p, c, rfl, _⟩ := hr.shape
  have hbA := Lib.hid (below_alloc w (.cells #[.slice p g.length c] 29))
  have HG := Lib.hid (hg0.below hbA.out)
  have BX := Lib.hid (Box.new w (.slice p g.length c) 29)
  clear hr hg0
  have hd := Lib.hid (dec_true hok)
  have h16 := hok.le
  have HOK := Lib.hid hok
  clear hok
  go_enter Tryd.func61, Tryd.ntmps61
  go_upto_region 3 with (go_at_call 73; refine (specGraphOk_any _ g _ HG.out).mono ?_; rintro e w2 ⟨he, hb2⟩; rw [hd.out] at he; subst he)
  have hbx := (BX.out.keep hb2).cell
  have HG2 := Lib.hid (HG.out.below hb2)
  have HB2 := Lib.hid (hbA.out.trans (hb2.mono hbA.out.size))
  clear hb2
  go_cut [2] (fun s wx => ∃ (ps : List (List Nat)), Parts (ofG g) (List.range g.length) ps ∧ SO wx w2.heap.size s ps ∧ Below w2.heap.size w2 wx)
  case first =>
    go_region_held3 (fun w' => w'.cell? ⟨w.heap.size, 0, none⟩ = some (.slice p g.length c))
      (first | go_keep | exact hbx | exact BWC.at' hbx | exact BWB.at' hbx | exact BWA.at' hbx)
      (first
        | (go_at_call 147; refine (l3PartsO_any _ _ g (List.range g.length) HOK.out (by rw [List.length_range]; exact h16) List.pairwise_lt_range (fun x hx => List.mem_range.1 hx) _ (HG2.out.below BWB) HL.out).mono ?_; rintro e w5 ⟨r, ps, rfl, hp5, hs5, _, _, hb5⟩; have HP5 := Lib.hid hp5; have HS5 := Lib.hid (hs5.base BWB.size); have BWC : Below w2.heap.size w2 w5 := BWB.trans (hb5.mono BWB.size); clear hp5 hs5 hb5)
        | (go_at_call 143; refine (l1All_any _ g.length rfl (by omega) _).mono ?_; rintro e w4 ⟨lv, rfl, ho4, hb4⟩; have HL := Lib.hid (Nums.of_owns ho4 (by rw [natInts_length, List.length_range]) (by omega)); have BWB : Below w2.heap.size w2 w4 := BWA.trans (hb4.mono BWA.size); clear ho4 hb4)
        | (go_at_call 132; refine (l1Size_any _ g _ (by first | exact HG2.out.below (below_dN (Below.refl _ _) 1))).mono ?_; rintro e w3 ⟨rfl, hb3⟩; have BWA : Below w2.heap.size w2 w3 := (below_dN (Below.refl _ _) 1).trans hb3; clear hb3))
    all_goals go_wp2
    all_goals go_meet
    all_goals exact ⟨ps, HP5.out, HS5.out, BWC⟩
  case rest =>
  obtain ⟨ps, hp, hs, hb⟩ := hcut
  go_wp2
  go_ret
  exact ⟨_, ps, rfl, hp, hs.base HB2.out.size, HB2.out.trans (hb.mono HB2.out.size)⟩

set_option maxRecDepth 100000 in
set_option maxHeartbeats 2000000 in
theorem specDistances_yes (v : Value) (z : Int) (u : Nat) (hz : z = u) (g : List (List Int)) (hok : GOk g) (hu : u < g.length) (w : World) (hg : Gr w v g) :
    Calls Tryd.prog 141 #[v, .int .i64 z] w fun e w' => ∃ (ov : Value) (F : List Int), e = .returned ov ∧ (∃ M, Bf (ofG g) (List.range g.length) g.length u F M) ∧ (∀ x, x < g.length → (0 ≤ F.getD x 0 ↔ x ∈ partL (ofG g) (List.range g.length) u)) ∧ w'.ownsRow w.heap.size 2 1 ov g.length (F.map (Value.int .i64)) ∧ Below w.heap.size w w' := by
  subst hz
  have hg0 := hg
  obtain ⟨gu, rfl, hr⟩ := hg
  obtain ⟨p, c, rfl, _⟩ := hr.shape
  obtain ⟨W0, hW0⟩ : ∃ W0, W0 = w.alloc (.cells #[.slice p g.length c] 29) := ⟨_, rfl⟩
  have hb0 : Below w.heap.size w W0 := by rw [hW0]; exact below_alloc _ _
  have HB0 := Lib.hid hb0
  have HBX : Hid (Box W0 w.heap.size 29 (.slice p g.length c)) := Lib.hid (by rw [hW0]; exact Box.new _ _ _)
  have HG := Lib.hid (hg0.below hb0)
  have HOK := Lib.hid hok
  have HD := Lib.hid (dec_true hok)
  have HDT := Lib.hid (dec_true (show (0 : Int) ≤ (u : Int) ∧ (u : Int) < g.length from ⟨by omega, by omega⟩))
  have h16 := hok.le
  have c0 := HBX.out.cell
  clear hr hg0 hb0 hok
  go_enter Tryd.func141, Tryd.ntmps141
  go_upto_region 1 with fail
  rw [← hW0]
  clear hW0
  go_upto_region 3 with (first
    | (have X := hb2; go_at_call 108; refine (l1There_any _ g _ _ (HG.out.below hb2) (by omega)).mono ?_; rintro e w3 ⟨he, hb3⟩; rw [HDT.out] at he; subst he; have HB3 := Lib.hid (hb2.trans (hb3.mono hb2.size)); have d3 := hb3.at' d2)
    | (go_at_call 73; refine (specGraphOk_any _ g _ HG.out).mono ?_; rintro e w2 ⟨he, hb2⟩; rw [HD.out] at he; subst he; have d2 := hb2.at' c0))
  have HG3 := Lib.hid (HG.out.below HB3.out)
  clear hb2 hb3 d2 c0
  go_region_held3 (fun w' => w'.cell? ⟨w.heap.size, 0, none⟩ = some (.slice p g.length c))
    (first | exact d3 | go_keep | exact BWC.at' d3 | exact BWB.at' d3 | exact BWA.at' d3)
    (first
      | (go_at_call 166; refine (l3FromF_any _ _ _ g (List.range g.length) u rfl HOK.out (fun x hx => List.mem_range.1 hx) (List.mem_range.2 hu) _ (HG3.out.below BWB) HL.out).mono ?_; rintro e w5 ⟨ov, F, rfl, _, hsg, hbf, ho5, hb5⟩; have HSG := Lib.hid hsg; have HBF := Lib.hid hbf; have HO5 := Lib.hid (ownsRow_base ho5 BWB.size); have BWC : Below w3.heap.size w3 w5 := BWB.trans (hb5.mono BWB.size); clear hsg hbf ho5 hb5)
      | (go_at_call 143; refine (l1All_any _ g.length rfl (by omega) _).mono ?_; rintro e w4 ⟨lv, rfl, ho4, hb4⟩; have HL := Lib.hid (Nums.of_owns ho4 (by rw [natInts_length, List.length_range]) (by omega)); have BWB : Below w3.heap.size w3 w4 := BWA.trans (hb4.mono BWA.size); clear ho4 hb4)
      | (go_at_call 132; refine (l1Size_any _ g _ (by first | exact HG3.out.below (below_dN (Below.refl _ _) 1))).mono ?_; rintro e wa ⟨rfl, hb3⟩; have BWA : Below w3.heap.size w3 wa := (below_dN (Below.refl _ _) 1).trans hb3; clear hb3))
  all_goals go_wp2
  all_goals go_ret
  all_goals exact ⟨_, F, rfl, HBF.out, HSG.out, ownsRow_base HO5.out (Nat.le_trans HB0.out.size HB3.out.size), HB0.out.trans ((HB3.out.trans (BWC.mono HB3.out.size)).mono HB0.out.size)⟩

end Go.Proofs.YtkppbmfliejnmaaDoor
