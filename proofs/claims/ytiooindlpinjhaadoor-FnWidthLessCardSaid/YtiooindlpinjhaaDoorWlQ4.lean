/- Walks: the reference's GraphOk and the program's. -/
import Derived.Test.YtiooindlpinjhaaDoorWlQ3
import Derived.Deep.RegionWith
namespace Go.Proofs.YtiooindlpinjhaaDoor
open Go.RowKit

/-- A graph value: a struct of one slice of rows. -/
def Gr (w : World) (v : Value) (g : List (List Int)) : Prop := ∃ u, v = .agg #[u] ∧ Rws w 26 2 u g

theorem Gr.below {w w' : World} {v : Value} {g : List (List Int)} (h : Gr w v g) (hb : Below w.heap.size w w') : Gr w' v g := by
  obtain ⟨u, rfl, hr⟩ := h
  exact ⟨u, rfl, hr.below hb⟩

set_option maxHeartbeats 400000 in
theorem l1Size_any (v : Value) (g : List (List Int)) (w : World) (hg : Gr w v g) :
    Calls Tryd.prog 75 #[v] w fun e w' => e = .returned (.int .i64 g.length) ∧ Below w.heap.size w w' := by
  obtain ⟨u, rfl, hr⟩ := hg
  obtain ⟨p, c, rfl, _, _, hn⟩ := hr.shape
  have hb := below_alloc w (.cells #[.slice p g.length c] 28)
  go_enter Tryd.func75, Tryd.ntmps75
  go_wp2
  go_ret
  exact ⟨rfl, hb⟩

/-- Row j of a graph of n rows is right by itself. -/
def RowOk (g : List (List Int)) (j : Nat) : Prop := SetIn g.length (row g j) ∧ (j : Int) ∉ row g j
/-- The first i neighbours of k have k as a neighbour. -/
def BackTo (g : List (List Int)) (k i : Nat) : Prop := ∀ u ∈ (row g k).take i, (k : Int) ∈ row g u.toNat

theorem gOk_of {g : List (List Int)} (h1 : 1 ≤ g.length ∧ g.length ≤ 16) (h2 : ∀ j, j < g.length → RowOk g j) (h3 : ∀ k, k < g.length → BackTo g k (row g k).length) : GOk g :=
  ⟨h1.1, h1.2, h2, fun v hv u hu => h3 v hv u (by rwa [List.take_length])⟩
theorem rowOk_of {g : List (List Int)} (h : GOk g) {j : Nat} (hj : j < g.length) : RowOk g j := h.sets j hj
theorem backTo_of {g : List (List Int)} (h : GOk g) {k : Nat} (hk : k < g.length) (i : Nat) : BackTo g k i := fun u hu => h.both k hk u (List.mem_of_mem_take hu)
theorem backTo_step {g : List (List Int)} {k i : Nat} (hi : i < (row g k).length) (h : BackTo g k i) (h2 : (k : Int) ∈ row g ((row g k)[i]).toNat) : BackTo g k (i + 1) := by
  intro u hu
  rw [take_snoc' _ i hi] at hu
  rcases List.mem_append.1 hu with hu | hu
  · exact h u hu
  · simp at hu; subst hu; exact h2
theorem row_bound {g : List (List Int)} {k i : Nat} (h : RowOk g k) (hi : i < (row g k).length) : ∃ m : Nat, (row g k)[i] = (m : Int) ∧ m < g.length := by
  have := h.1.1 _ (List.getElem_mem hi)
  exact ⟨((row g k)[i]).toNat, by omega, by omega⟩

set_option maxRecDepth 100000 in
set_option maxHeartbeats 2000000 in
theorem specGraphOk_any (v : Value) (g : List (List Int)) (w : World) (hg : Gr w v g) :
    Calls Tryd.prog 45 #[v] w fun e w' => e = .returned (.bool (dec (GOk g))) ∧ Below w.heap.size w w' := by
  obtain ⟨u, rfl, hr⟩ := hg
  obtain ⟨p, c, rfl, _, _, hn⟩ := hr.shape
  obtain ⟨W1, hW1⟩ : ∃ W1, W1 = w.alloc (.cells #[.slice p g.length c] 28) := ⟨_, rfl⟩
  have hs1 : W1.heap.size = w.heap.size + 1 := by rw [hW1]; exact size_alloc _ _
  have hb1 : Below w.heap.size w W1 := by rw [hW1]; exact below_alloc _ _
  have hbox : W1.cell? ⟨w.heap.size, 0, none⟩ = some (.slice p g.length c) := by rw [hW1]; exact cell_new _ _ _
  have hr1 := hr.below hb1
  have HW1 := Lib.hid hW1
  have hs1' : w.heap.size < W1.heap.size := by omega
  clear hW1 hs1 hr
  by_cases hlen : 1 ≤ g.length ∧ g.length ≤ 16
  case neg =>
    have hd := dec_false (p := (1 : Int) ≤ (g.length : Int) ∧ (g.length : Int) ≤ 16) (by omega)
    have Hlen := Lib.hid hlen
    clear hlen
    go_enter Tryd.func45, Tryd.ntmps45
    go_wp2_with (first
      | (go_at_call 75; refine (l1Size_any _ g _ ⟨_, rfl, HW1.out ▸ hr1⟩).mono ?_; rintro e w2 ⟨rfl, hb2⟩)
      | (go_at_call 116; refine (l1In_any _ _ _ _).mono ?_; rintro e w3 ⟨rfl, rfl⟩))
    go_ret
    refine ⟨ret_bool (false_dec fun h => Hlen.out ⟨h.pos, h.le⟩), ?_⟩
    rw [← HW1.out] at hb2
    exact below_le hb1 hb2 (by omega)
  have hd := dec_true (p := (1 : Int) ≤ (g.length : Int) ∧ (g.length : Int) ≤ 16) (by omega)
  obtain ⟨hl1, hl2⟩ := hlen
  go_enter Tryd.func45, Tryd.ntmps45
  go_wp2_with (first
    | (go_at_call 75; refine (l1Size_any _ g _ ⟨_, rfl, HW1.out ▸ hr1⟩).mono ?_; rintro e w2 ⟨rfl, hb2⟩)
    | (go_at_call 116; refine (l1In_any _ _ _ _).mono ?_; rintro e w3 ⟨rfl, rfl⟩))
  have hb2' : Below W1.heap.size W1 w2 := by rw [← HW1.out] at hb2; exact hb2
  clear hb2
  go_loopw [4] (fun i wr => ∃ k : Nat, k ≤ g.length ∧ i = .int .i64 k ∧ (∀ j, j < k → RowOk g j) ∧ Below W1.heap.size W1 wr) (fun i _ => g.length - (intOf i).toNat)
  case atStart => exact ⟨0, Nat.zero_le _, rfl, fun j hj => by omega, hb2'⟩
  case round =>
    clear hb2'
    obtain ⟨k, hk, rfl, hrows, hbel⟩ := hrel
    have Hrows := Lib.hid hrows
    clear hrows
    have hboxr := hbel.at (by omega) hbox
    have hszr := hbel.size
    by_cases hlt : k < g.length
    · have hrr := hr1.below hbel
      obtain ⟨b, o, rp, rc, rfl, hcell, hnums⟩ := hrr.get hlt
      change wr.cell? _ = some (.slice rp (row g k).length rc) at hcell
      change Nums wr _ _ (.slice rp (row g k).length rc) (row g k) at hnums
      clear hrr
      by_cases hs : SetIn (g.length : Int) (row g k)
      · have hs' := dec_true hs
        by_cases hh : (k : Int) ∈ row g k
        · have hh' := dec_true hh
          have Hh := Lib.hid hh
          have Hs := Lib.hid hs
          clear hh hs
          go_wp2_with (first
            | (go_at_call 117; refine (l1Set_any _ _ _ (by omega) (by omega) _ hnums).mono ?_; rintro e w3 ⟨rfl, hb3⟩; have hboxr3 := hb3.at' hboxr; have hcell3 := hb3.at' hcell; have hnums3 := hnums.below hb3)
            | (go_at_call 72; refine (l1Has_any _ _ _ _ hnums3).mono ?_; rintro e w4 ⟨rfl, rfl⟩))
          go_ret
          exact ⟨ret_bool (false_dec fun h => (h.sets k hlt).2 Hh.out), (hb1.trans (hbel.mono (by omega))).trans (hb3.mono (by omega))⟩
        · have hh' := dec_false hh
          have Hok := Lib.hid (show RowOk g k from ⟨hs, hh⟩)
          clear hh hs
          go_wp2_with (first
            | (go_at_call 117; refine (l1Set_any _ _ _ (by omega) (by omega) _ hnums).mono ?_; rintro e w3 ⟨rfl, hb3⟩; have hboxr3 := hb3.at' hboxr; have hcell3 := hb3.at' hcell; have hnums3 := hnums.below hb3)
            | (go_at_call 72; refine (l1Has_any _ _ _ _ hnums3).mono ?_; rintro e w4 ⟨rfl, rfl⟩))
          go_roundw
          case rel =>
            refine ⟨k + 1, by omega, by go_num, fun j hj => ?_, hbel.trans (hb3.mono (by omega))⟩
            by_cases e : j = k
            · subst e; exact Hok.out
            · exact Hrows.out j (by omega)
          case measure => simp [intOf]; omega
      · have hs' := dec_false hs
        have Hs := Lib.hid hs
        clear hs
        go_wp2_with (go_at_call 117; refine (l1Set_any _ _ _ (by omega) (by omega) _ hnums).mono ?_; rintro e w3 ⟨rfl, hb3⟩)
        go_ret
        exact ⟨ret_bool (false_dec fun h => Hs.out (h.sets k hlt).1), (hb1.trans (hbel.mono (by omega))).trans (hb3.mono (by omega))⟩
    · obtain rfl : k = g.length := by omega
      go_wp2
      obtain ⟨wo, rfl⟩ : ∃ wo : World, wo = wr := ⟨_, rfl⟩
      go_loopw [5, 6] (fun i _ wr => ∃ k : Nat, k ≤ g.length ∧ i = .int .i64 k ∧ (∀ j, j < k → BackTo g j (row g j).length) ∧ Below W1.heap.size W1 wr) (fun i _ _ => g.length - (intOf i).toNat)
      case atStart => exact ⟨0, Nat.zero_le _, rfl, fun j hj => by omega, hbel⟩
      case round =>
        clear hboxr hszr hbel
        obtain ⟨k, hk, rfl, hback, hbel⟩ := hrel
        have Hback := Lib.hid hback
        clear hback
        have hszr := hbel.size
        by_cases hlt : k < g.length
        · go_wp2
          obtain ⟨wi, rfl⟩ : ∃ wi : World, wi = wr := ⟨_, rfl⟩
          go_loopw [6] (fun i wr => ∃ j : Nat, j ≤ (row g k).length ∧ i = .int .i64 j ∧ BackTo g k j ∧ Below W1.heap.size W1 wr) (fun i _ => (row g k).length - (intOf i).toNat)
          case atStart => exact ⟨0, Nat.zero_le _, rfl, fun u hu => by simp at hu, hbel⟩
          case round =>
            clear hbel hszr
            obtain ⟨i, hi, rfl, hbk, hbel⟩ := hrel
            have Hbk := Lib.hid hbk
            clear hbk
            have hboxr := hbel.at (by omega) hbox
            have hszr := hbel.size
            have hrr := hr1.below hbel
            obtain ⟨b, o, rp, rc, rfl, hcell, hnums⟩ := hrr.get hlt
            change wr.cell? _ = some (.slice rp (row g k).length rc) at hcell
            change Nums wr _ _ (.slice rp (row g k).length rc) (row g k) at hnums
            by_cases hlti : i < (row g k).length
            · obtain ⟨m, hm, hmn⟩ := row_bound (Hrows.out k hlt) hlti
              obtain ⟨_, _, hv, _, _, _, hat⟩ := hnums
              simp only [Value.slice.injEq, true_and] at hv
              obtain ⟨rfl, rfl⟩ := hv
              obtain ⟨b2, o2, rfl, hcell2⟩ := hat.num hlti
              rw [hm] at hcell2
              obtain ⟨b', o', rp', rc', he, hcell3, hnums3⟩ := hrr.get hmn
              simp only [Option.some.injEq, Addr.mk.injEq, and_true] at he
              obtain ⟨rfl, rfl⟩ := he
              change wr.cell? _ = some (.slice rp' (row g m).length rc') at hcell3
              change Nums wr _ _ (.slice rp' (row g m).length rc') (row g m) at hnums3
              clear hat hrr
              have Hm := Lib.hid hm
              clear hm
              by_cases hh : (k : Int) ∈ row g m
              · have hh' := dec_true hh
                have Hh := Lib.hid hh
                clear hh
                go_wp2
                go_quiet ((go_at_call 72; exact Calls.quiet_of_same (flip (l1Has_any _ _ _ _ (hnums3.below (below_dN (Below.refl _ _) _))))))
                go_wp2
                go_roundw
                case rel =>
                  refine ⟨i + 1, by omega, by go_num, backTo_step hlti Hbk.out ?_, below_dN hbel _⟩
                  rw [Hm.out, Int.toNat_natCast]; exact Hh.out
                case measure => simp [intOf]; omega
              · have hh' := dec_false hh
                have Hh := Lib.hid hh
                clear hh
                go_wp2
                go_quiet ((go_at_call 72; exact Calls.quiet_of_same (flip (l1Has_any _ _ _ _ (hnums3.below (below_dN (Below.refl _ _) _))))))
                go_wp2
                go_ret
                refine ⟨ret_bool (false_dec fun h => Hh.out ?_), hb1.trans ((below_dN hbel _).mono (by omega))⟩
                have := h.both k hlt _ (List.getElem_mem hlti)
                rwa [Hm.out, Int.toNat_natCast] at this
            · obtain rfl : i = (row g k).length := by omega
              go_wp2
              go_roundw
              case rel =>
                refine ⟨k + 1, by omega, by go_num, fun j hj => ?_, hbel⟩
                by_cases e : j = k
                · subst e; exact Hbk.out
                · exact Hback.out j (by omega)
              case measure => simp [intOf]; omega
        · obtain rfl : k = g.length := by omega
          go_wp2
          go_ret
          exact ⟨ret_bool (true_dec (gOk_of ⟨hl1, hl2⟩ Hrows.out Hback.out)), hb1.trans (hbel.mono (by omega))⟩

end Go.Proofs.YtiooindlpinjhaaDoor

/- Walks: the program's GraphOk. -/
namespace Go.Proofs.YtiooindlpinjhaaDoor
open Go.RowKit

set_option maxRecDepth 100000 in
set_option maxHeartbeats 1000000 in
theorem increasing_any (v : Value) (xs : List Int) (n : Int) (h0 : 0 ≤ n) (h1 : n ≤ 1000000000) (w : World) (hx : Nums w 2 .i64 v xs) :
    Calls Tryd.prog 121 #[v, .int .i64 n] w fun e w' => e = .returned (.bool (dec (SetIn n xs))) ∧ w = w' := by
  obtain ⟨p, c, rfl, _, _, hn, hat⟩ := hx
  go_enter Tryd.func121, Tryd.ntmps121
  go_wp2
  go_loop [5, 6, 9] (fun _ _ i => ∃ k : Nat, k ≤ xs.length ∧ i = .int .i64 k ∧ SetIn n (xs.take k)) (fun _ _ i => xs.length - (intOf i).toNat)
  case atStart => exact ⟨0, Nat.zero_le _, rfl, by simpa using setIn_nil n⟩
  case round =>
    obtain ⟨k, hk, rfl, hset⟩ := hrel
    by_cases hlt : k < xs.length
    · obtain ⟨b, o, rfl, hcs⟩ := hat.cells (k := k) (by simpa using hlt)
      have hcell : w.cell? ⟨b, o + k, none⟩ = some (.int .i64 xs[k]) := hcs k _ (by simp [hlt])
      have hcell' : 0 < k → ∃ y, y = xs[k - 1]'(by omega) ∧ w.cell? ⟨b, o + (k - 1), none⟩ = some (.int .i64 y) := fun hk0 => ⟨_, rfl, hcs (k - 1) _ (by rw [List.getElem?_map, List.getElem?_eq_getElem (by omega)]; rfl)⟩
      have hstep := setIn_step (n := n) hlt
      clear hcs hat
      have Hset := Lib.hid hset
      have Hstep := Lib.hid hstep
      clear hset hstep
      by_cases hin : 0 ≤ xs[k] ∧ xs[k] ≤ n - 1
      · have hin' := dec_true hin
        by_cases hk0 : 0 < k
        · obtain ⟨y, hy, hcy⟩ := hcell' hk0
          clear hcell'
          have Hy := Lib.hid hy
          clear hy
          have e3 : 0 ≤ (k : Int) - 1 := by omega
          have e4 : ((k : Int) - 1).toNat = k - 1 := by omega
          by_cases hle : xs[k] ≤ y
          · go_wp2_with (go_at_call 153; refine (inRange_any _ _ _ _).mono ?_; rintro e w2 ⟨rfl, rfl⟩)
            go_ret
            exact ⟨ret_bool (false_dec fun h => by have h3 := (Hstep.out.1 (setIn_take h _)).2.2 hk0; have := Hy.out; omega), rfl⟩
          · go_wp2_with (go_at_call 153; refine (inRange_any _ _ _ _).mono ?_; rintro e w2 ⟨rfl, rfl⟩)
            go_round
            case rel => exact ⟨k + 1, by omega, by go_num, Hstep.out.2 ⟨Hset.out, by omega, fun _ => by have := Hy.out; omega⟩⟩
            case measure => simp [intOf]; omega
        · go_wp2_with (go_at_call 153; refine (inRange_any _ _ _ _).mono ?_; rintro e w2 ⟨rfl, rfl⟩)
          go_round
          case rel => exact ⟨k + 1, by omega, by go_num, Hstep.out.2 ⟨Hset.out, by omega, fun h => absurd h (by omega)⟩⟩
          case measure => simp [intOf]; omega
      · have hin' := dec_false hin
        have Hin := Lib.hid hin
        clear hin
        go_wp2_with (go_at_call 153; refine (inRange_any _ _ _ _).mono ?_; rintro e w2 ⟨rfl, rfl⟩)
        go_ret
        exact ⟨ret_bool (false_dec fun h => by have h3 := (Hstep.out.1 (setIn_take h _)).2.1; have := Hin.out; omega), rfl⟩
    · obtain rfl : k = xs.length := by omega
      go_wp2
      go_ret
      rw [List.take_length] at hset
      exact ⟨ret_bool (true_dec hset), rfl⟩

set_option maxRecDepth 100000 in
set_option maxHeartbeats 2000000 in
theorem implGraphOk_any (v : Value) (g : List (List Int)) (w : World) (hg : Gr w v g) :
    Calls Tryd.prog 53 #[v] w fun e w' => e = .returned (.bool (dec (GOk g))) ∧ Below w.heap.size w w' := by
  obtain ⟨u, rfl, hr⟩ := hg
  obtain ⟨p, c, rfl, _, _, hn⟩ := hr.shape
  obtain ⟨W1, hW1⟩ : ∃ W1, W1 = w.alloc (.cells #[.slice p g.length c] 28) := ⟨_, rfl⟩
  have hs1 : W1.heap.size = w.heap.size + 1 := by rw [hW1]; exact size_alloc _ _
  have hb1 : Below w.heap.size w W1 := by rw [hW1]; exact below_alloc _ _
  have hbox : W1.cell? ⟨w.heap.size, 0, none⟩ = some (.slice p g.length c) := by rw [hW1]; exact cell_new _ _ _
  have hr1 := hr.below hb1
  have HW1 := Lib.hid hW1
  have hs1' : w.heap.size < W1.heap.size := by omega
  clear hW1 hs1 hr
  by_cases hlen : 1 ≤ g.length ∧ g.length ≤ 16
  case neg =>
    have Hlen := Lib.hid hlen
    by_cases hl0 : g.length < 1
    all_goals
      have hl0' : (g.length : Int) < 1 ∨ (16 : Int) < g.length := by omega
      clear hlen
      go_enter Tryd.func53, Tryd.ntmps53
      go_wp2
      go_ret
      exact ⟨ret_bool (false_dec fun h => Hlen.out ⟨h.pos, h.le⟩), HW1.out ▸ hb1⟩
  obtain ⟨hl1, hl2⟩ := hlen
  go_enter Tryd.func53, Tryd.ntmps53
  go_wp2
  go_loopw [4, 5, 22] (fun _ _ i wr => ∃ k : Nat, k ≤ g.length ∧ i = .int .i64 k ∧ (∀ j, j < k → RowOk g j) ∧ W1 = wr) (fun _ _ i _ => g.length - (intOf i).toNat)
  case atStart => exact ⟨0, Nat.zero_le _, rfl, fun j hj => by omega, HW1.out⟩
  case round =>
    obtain ⟨k, hk, rfl, hrows, rfl⟩ := hrel
    have Hrows := Lib.hid hrows
    clear hrows
    by_cases hlt : k < g.length
    · obtain ⟨b, o, rp, rc, rfl, hcell, hnums⟩ := hr1.get hlt
      change W1.cell? _ = some (.slice rp (row g k).length rc) at hcell
      change Nums W1 _ _ (.slice rp (row g k).length rc) (row g k) at hnums
      by_cases hs : SetIn (g.length : Int) (row g k)
      · have hs' := dec_true hs
        by_cases hh : (k : Int) ∈ row g k
        · have hh' := dec_true hh
          have Hh := Lib.hid hh
          have Hs := Lib.hid hs
          clear hh hs
          go_wp2_with (first
            | (go_at_call 121; refine (increasing_any _ _ _ (by omega) (by omega) _ hnums).mono ?_; rintro e w3 ⟨rfl, rfl⟩)
            | (go_at_call 122; refine (contains_any _ _ _ _ hnums).mono ?_; rintro e w4 ⟨rfl, rfl⟩))
          go_ret
          exact ⟨ret_bool (false_dec fun h => (h.sets k hlt).2 Hh.out), hb1⟩
        · have hh' := dec_false hh
          have Hok := Lib.hid (show RowOk g k from ⟨hs, hh⟩)
          clear hh hs
          go_wp2_with (first
            | (go_at_call 121; refine (increasing_any _ _ _ (by omega) (by omega) _ hnums).mono ?_; rintro e w3 ⟨rfl, rfl⟩)
            | (go_at_call 122; refine (contains_any _ _ _ _ hnums).mono ?_; rintro e w4 ⟨rfl, rfl⟩))
          go_roundw
          case rel =>
            refine ⟨k + 1, by omega, by go_num, fun j hj => ?_, by trivial⟩
            by_cases e : j = k
            · subst e; exact Hok.out
            · exact Hrows.out j (by omega)
          case measure => simp [intOf]; omega
      · have hs' := dec_false hs
        have Hs := Lib.hid hs
        clear hs
        go_wp2_with (go_at_call 121; refine (increasing_any _ _ _ (by omega) (by omega) _ hnums).mono ?_; rintro e w3 ⟨rfl, rfl⟩)
        go_ret
        exact ⟨ret_bool (false_dec fun h => Hs.out (h.sets k hlt).1), hb1⟩
    · obtain rfl : k = g.length := by omega
      go_wp2
      go_loopw [6, 7, 9, 40, 45, 46, 47] (fun _ _ _ i _ _ _ wr => ∃ k : Nat, k ≤ g.length ∧ i = .int .i64 k ∧ (∀ j, j < k → BackTo g j (row g j).length) ∧ W1 = wr) (fun _ _ _ i _ _ _ _ => g.length - (intOf i).toNat)
      case atStart => exact ⟨0, Nat.zero_le _, rfl, fun j hj => by omega, rfl⟩
      case round =>
        obtain ⟨k, hk, rfl, hback, rfl⟩ := hrel
        have Hback := Lib.hid hback
        clear hback
        by_cases hlt : k < g.length
        · obtain ⟨b, o, rp, rc, rfl, hcell, hnums⟩ := hr1.get hlt
          change W1.cell? _ = some (.slice rp (row g k).length rc) at hcell
          change Nums W1 _ _ (.slice rp (row g k).length rc) (row g k) at hnums
          obtain ⟨_, _, hv, _, _, hnr, hat⟩ := hnums
          simp only [Value.slice.injEq, true_and] at hv
          obtain ⟨rfl, rfl⟩ := hv
          go_wp2
          go_loopw [9, 47] (fun _ i wr => ∃ j : Nat, j ≤ (row g k).length ∧ i = .int .i64 j ∧ BackTo g k j ∧ W1 = wr) (fun _ i _ => (row g k).length - (intOf i).toNat)
          case atStart => exact ⟨0, Nat.zero_le _, rfl, fun u hu => by simp at hu, rfl⟩
          case round =>
            obtain ⟨i, hi, rfl, hbk, rfl⟩ := hrel
            have Hbk := Lib.hid hbk
            clear hbk
            by_cases hlti : i < (row g k).length
            · obtain ⟨m, hm, hmn⟩ := row_bound (Hrows.out k hlt) hlti
              obtain ⟨b2, o2, rfl, hcell2⟩ := hat.num hlti
              rw [hm] at hcell2
              obtain ⟨b', o', rp', rc', he, hcell3, hnums3⟩ := hr1.get hmn
              simp only [Option.some.injEq, Addr.mk.injEq, and_true] at he
              obtain ⟨rfl, rfl⟩ := he
              change W1.cell? _ = some (.slice rp' (row g m).length rc') at hcell3
              change Nums W1 _ _ (.slice rp' (row g m).length rc') (row g m) at hnums3
              clear hat
              have Hm := Lib.hid hm
              clear hm
              by_cases hh : (k : Int) ∈ row g m
              · have hh' := dec_true hh
                have Hh := Lib.hid hh
                clear hh
                go_wp2_with (go_at_call 122; refine (contains_any _ _ _ _ hnums3).mono ?_; rintro e w4 ⟨rfl, rfl⟩)
                go_roundw
                case rel =>
                  refine ⟨i + 1, by omega, by go_num, backTo_step hlti Hbk.out ?_, by trivial⟩
                  rw [Hm.out, Int.toNat_natCast]; exact Hh.out
                case measure => simp [intOf]; omega
              · have hh' := dec_false hh
                have Hh := Lib.hid hh
                clear hh
                go_wp2_with (go_at_call 122; refine (contains_any _ _ _ _ hnums3).mono ?_; rintro e w4 ⟨rfl, rfl⟩)
                go_ret
                refine ⟨ret_bool (false_dec fun h => Hh.out ?_), hb1⟩
                have := h.both k hlt _ (List.getElem_mem hlti)
                rwa [Hm.out, Int.toNat_natCast] at this
            · obtain rfl : i = (row g k).length := by omega
              go_wp2
              go_roundw
              case rel =>
                refine ⟨k + 1, by omega, by go_num, fun j hj => ?_, by trivial⟩
                by_cases e : j = k
                · subst e; exact Hbk.out
                · exact Hback.out j (by omega)
              case measure => simp [intOf]; omega
        · obtain rfl : k = g.length := by omega
          go_wp2
          go_ret
          exact ⟨ret_bool (true_dec (gOk_of ⟨hl1, hl2⟩ Hrows.out Hback.out)), hb1⟩

end Go.Proofs.YtiooindlpinjhaaDoor

/- Walks: sets of neighbours. -/
namespace Go.Proofs.YtiooindlpinjhaaDoor
open Go.RowKit

/-- A set of vertices as a value. -/
def u32v (s : Nat) : Value := .int .u32 (s : Int)
/-- The sets of neighbours of a graph. -/
def netL (g : List (List Int)) : List Nat := g.map mask

theorem mask_take_lt16 {xs : List Int} (h : ∀ x ∈ xs, 0 ≤ x ∧ x < 16) (k : Nat) : mask (xs.take k) < 65536 :=
  mask_lt16 _ fun x hx => (h x (List.mem_of_mem_take hx)).2

theorem or_u32 (a b : Nat) (ha : a < 65536) (hb : b < 65536) : bits BinOp.or IntKind.u32 (a : Int) (b : Int) = ((a ||| b : Nat) : Int) := u32_or_nat a b (by omega) (by omega)

set_option maxRecDepth 100000 in
set_option maxHeartbeats 1000000 in
theorem maskOf_any (v : Value) (xs : List Int) (hr : ∀ x ∈ xs, 0 ≤ x ∧ x < 16) (w : World) (hx : Nums w 2 .i64 v xs) :
    Calls Tryd.prog 65 #[v] w fun e w' => e = .returned (.int .u32 ((mask xs : Nat) : Int)) ∧ w = w' := by
  obtain ⟨p, c, rfl, _, _, hn, hat⟩ := hx
  go_enter Tryd.func65, Tryd.ntmps65
  go_wp2
  go_loop [3, 5, 8] (fun o _ i => ∃ k : Nat, k ≤ xs.length ∧ i = .int .i64 k ∧ o = .int .u32 (mask (xs.take k))) (fun _ _ i => xs.length - (intOf i).toNat)
  case atStart => exact ⟨0, Nat.zero_le _, rfl, rfl⟩
  case round =>
    obtain ⟨k, hk, rfl, rfl⟩ := hrel
    by_cases hlt : k < xs.length
    · obtain ⟨b, o, rfl, hcell⟩ := hat.num hlt
      have hb := hr _ (List.getElem_mem hlt)
      obtain ⟨m, hm⟩ : ∃ m : Nat, xs[k] = (m : Int) := ⟨xs[k].toNat, by omega⟩
      have hor := Lib.hid (or_u32 (mask (xs.take k)) (2 ^ m) (mask_take_lt16 hr k) (pow_lt16 m (by omega)))
      have hsn : mask (xs.take (k + 1)) = mask (xs.take k) ||| 2 ^ m := by rw [take_snoc' _ k hlt, mask_snoc, hm, Int.toNat_natCast]
      have Hsn := Lib.hid hsn
      have hm16 : m < 32 := by omega
      rw [hm] at hcell
      clear hsn hm hb hat hr
      generalize mask (xs.take k) = M at *
      go_wp2_with (go_at_call 70; refine (one_any _ m rfl hm16 _).mono ?_; rintro e w2 ⟨rfl, rfl⟩)
      go_round
      case rel => exact ⟨k + 1, by omega, by go_num, val_int (by rw [Hsn.out]; exact hor.out)⟩
      case measure => simp [intOf]; omega
    · obtain rfl : k = xs.length := by omega
      rw [List.take_length]
      go_wp2
      go_ret
      exact ⟨rfl, rfl⟩

theorem netL_lt {g : List (List Int)} (h : GOk g) : ∀ s ∈ netL g, s < 65536 := by
  intro s hs
  obtain ⟨r, hr, rfl⟩ := List.mem_map.1 hs
  obtain ⟨i, hi, rfl⟩ := List.mem_iff_getElem.1 hr
  have h1 := (h.sets i hi).1
  have e : row g i = g[i] := by simp [row, hi]
  rw [e] at h1
  exact mask_lt16 _ fun x hx => by have := (h1.1 x hx).2; have := h.le; omega

set_option maxRecDepth 100000 in
set_option maxHeartbeats 1000000 in
theorem netsOf_any (v : Value) (g : List (List Int)) (w : World) (hg : Gr w v g) (hok : GOk g) :
    Calls Tryd.prog 54 #[v] w fun e w' => ∃ u, e = .returned u ∧
      w'.ownsRow w.heap.size 71 1 u g.length ((netL g).map u32v) ∧ Below w.heap.size w w' := by
  obtain ⟨u, rfl, hr⟩ := hg
  obtain ⟨p, c, rfl, _, _, hn⟩ := hr.shape
  have h16 := hok.le
  have hbb := below_alloc w (.cells #[.slice p g.length c] 28)
  have hbox := cell_new w (.slice p g.length c) 28
  go_enter Tryd.func54, Tryd.ntmps54
  go_wp2
  go_loopw [3, 5, 10] (fun o _ i wr => ∃ k : Nat, k ≤ g.length ∧ i = .int .i64 k ∧ wr.ownsRow w.heap.size 71 1 o k ((netL (g.take k)).map u32v) ∧ Below w.heap.size w wr) (fun _ _ i _ => g.length - (intOf i).toNat)
  case atStart => exact ⟨0, Nat.zero_le _, rfl, ownsRow_empty' _ _ _ _ _ (by omega), hbb.alloc (by rw [size_alloc]; omega) _⟩
  case round =>
    clear hbox hbb
    obtain ⟨k, hk, rfl, hown, hbel⟩ := hrel
    have hszr := hbel.size
    by_cases hlt : k < g.length
    · obtain ⟨b, o, rp, rc, rfl, hcell, hnums⟩ := (hr.below hbel).get hlt
      change wr.cell? _ = some (.slice rp (row g k).length rc) at hcell
      change Nums wr _ _ (.slice rp (row g k).length rc) (row g k) at hnums
      have hin : ∀ x ∈ row g k, 0 ≤ x ∧ x < 16 := fun x hx => by have := (hok.sets k hlt).1.1 x hx; omega
      have ht := Lib.hid (take_snoc' g k hlt)
      have he : g[k] = row g k := by simp [row, hlt]
      have He := Lib.hid he
      clear he
      go_wp2_with (first
        | (go_at_call 65; refine (maskOf_any _ _ hin _ hnums).mono ?_; rintro e w2 ⟨rfl, rfl⟩)
        | (at_builtin; refine wpList_app1 ty_nets rfl rfl rfl hown rfl rfl (by omega) hszr ?_; intro v' w1 hown' hg _))
      go_roundw
      case rel =>
        refine ⟨k + 1, by omega, by go_num, ?_, below_grown hbel hown hg (Nat.le_refl _) hszr⟩
        rw [ht.out, netL, List.map_append, List.map_append, List.map_singleton, List.map_singleton, He.out]
        exact hown'
      case measure => simp [intOf]; omega
    · obtain rfl : k = g.length := by omega
      go_wp2
      go_ret
      rw [List.take_length] at hown
      exact ⟨_, rfl, hown, hbel⟩

set_option maxRecDepth 100000 in
set_option maxHeartbeats 400000 in
theorem all_any (p : Option Addr) (n c : Nat) (hn : n < 32) (w : World) :
    Calls Tryd.prog 56 #[.slice p n c] w fun e w' => e = .returned (.int .u32 ((2 ^ n - 1 : Nat) : Int)) ∧ w = w' := by
  go_enter Tryd.func56, Tryd.ntmps56
  go_wp2_with (go_at_call 66; refine (firstOf_any _ n rfl hn _).mono ?_; rintro e w2 ⟨rfl, rfl⟩)
  go_ret
  exact ⟨rfl, rfl⟩

/-- Two vertices are made neighbours. -/
def joinL (a : List Nat) (u v : Nat) : List Nat := let b := a.set u (a.getD u 0 ||| 2 ^ v); b.set v (b.getD v 0 ||| 2 ^ u)


end Go.Proofs.YtiooindlpinjhaaDoor
