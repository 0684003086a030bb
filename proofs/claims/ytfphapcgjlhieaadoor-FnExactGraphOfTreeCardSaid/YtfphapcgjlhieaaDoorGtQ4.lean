/- Walks: the reference's GraphOk and the program's. -/
import Derived.Test.YtfphapcgjlhieaaDoorGtQ3
namespace Go.Proofs.YtfphapcgjlhieaaDoor
open Go.RowKit

/-- A graph value: a struct of one slice of rows. -/
def Gr (w : World) (v : Value) (g : List (List Int)) : Prop := ∃ u, v = .agg #[u] ∧ Rws w 52 2 u g

theorem Gr.below {w w' : World} {v : Value} {g : List (List Int)} (h : Gr w v g) (hb : Below w.heap.size w w') : Gr w' v g := by
  obtain ⟨u, rfl, hr⟩ := h
  exact ⟨u, rfl, hr.below hb⟩

set_option maxHeartbeats 400000 in
theorem l1Size_any (v : Value) (g : List (List Int)) (w : World) (hg : Gr w v g) :
    Calls Tryd.prog 104 #[v] w fun e w' => e = .returned (.int .i64 g.length) ∧ Below w.heap.size w w' := by
  obtain ⟨u, rfl, hr⟩ := hg
  obtain ⟨p, c, rfl, _, _, hn⟩ := hr.shape
  have hb := below_alloc w (.cells #[.slice p g.length c] 26)
  go_enter Tryd.func104, Tryd.ntmps104
  go_wp2
  go_ret
  exact ⟨rfl, hb⟩

/-- Row j of a graph of n rows is right by itself. -/
def RowOk (g : List (List Int)) (j : Nat) : Prop := SetIn g.length (row g j) ∧ (j : Int) ∉ row g j
/-- The first i neighbours of k have k as a neighbour. -/
def BackTo (g : List (List Int)) (k i : Nat) : Prop := ∀ u ∈ (row g k).take i, (k : Int) ∈ row g u.toNat

theorem gOk_of {g : List (List Int)} (h1 : 1 ≤ g.length ∧ g.length ≤ 16) (h2 : ∀ j, j < g.length → RowOk g j) (h3 : ∀ k, k < g.length → BackTo g k (row g k).length) : GOk g :=
  ⟨h1.1, h1.2, h2, fun v hv u hu => h3 v hv u (by rwa [List.take_length])⟩
theorem rowOk_of {g : List (List Int)} (h : GOk g) {j : Nat} (hj : j < g.length) : RowOk g j := h.sets j hj
theorem backTo_of {g : List (List Int)} (h : GOk g) {k : Nat} (hk : k < g.length) (i : Nat) : BackTo g k i := fun u hu => h.both k hk u (List.mem_of_mem_take hu)
theorem backTo_step {g : List (List Int)} {k i : Nat} (hi : i < (row g k).length) (h : BackTo g k i) (h2 : (k : Int) ∈ row g ((row g k)[i]).toNat) : BackTo g k (i + 1) := by
  intro u hu
  rw [take_snoc' _ i hi] at hu
  rcases List.mem_append.1 hu with hu | hu
  · exact h u hu
  · simp at hu; subst hu; exact h2
theorem row_bound {g : List (List Int)} {k i : Nat} (h : RowOk g k) (hi : i < (row g k).length) : ∃ m : Nat, (row g k)[i] = (m : Int) ∧ m < g.length := by
  have := h.1.1 _ (List.getElem_mem hi)
  exact ⟨((row g k)[i]).toNat, by omega, by omega⟩

set_option maxRecDepth 100000 in
set_option maxHeartbeats 2000000 in
theorem specGraphOk_any (v : Value) (g : List (List Int)) (w : World) (hg : Gr w v g) :
    Calls Tryd.prog 79 #[v] w fun e w' => e = .returned (.bool (dec (GOk g))) ∧ Below w.heap.size w w' := by
  obtain ⟨u, rfl, hr⟩ := hg
  obtain ⟨p, c, rfl, _, _, hn⟩ := hr.shape
  obtain ⟨W1, hW1⟩ : ∃ W1, W1 = w.alloc (.cells #[.slice p g.length c] 26) := ⟨_, rfl⟩
  have hs1 : W1.heap.size = w.heap.size + 1 := by rw [hW1]; exact size_alloc _ _
  have hb1 : Below w.heap.size w W1 := by rw [hW1]; exact below_alloc _ _
  have hbox : W1.cell? ⟨w.heap.size, 0, none⟩ = some (.slice p g.length c) := by rw [hW1]; exact cell_new _ _ _
  have hr1 := hr.below hb1
  have HW1 := Lib.hid hW1
  have hs1' : w.heap.size < W1.heap.size := by omega
  clear hW1 hs1 hr
  by_cases hlen : 1 ≤ g.length ∧ g.length ≤ 16
  case neg =>
    have hd := dec_false (p := (1 : Int) ≤ (g.length : Int) ∧ (g.length : Int) ≤ 16) (by omega)
    have Hlen := Lib.hid hlen
    clear hlen
    go_enter Tryd.func79, Tryd.ntmps79
    go_wp2_with (first
      | (go_at_call 104; refine (l1Size_any _ g _ ⟨_, rfl, HW1.out ▸ hr1⟩).mono ?_; rintro e w2 ⟨rfl, hb2⟩)
      | (go_at_call 60; refine (l1In_any _ _ _ _).mono ?_; rintro e w3 ⟨rfl, rfl⟩))
    go_ret
    refine ⟨ret_bool (false_dec fun h => Hlen.out ⟨h.pos, h.le⟩), ?_⟩
    rw [← HW1.out] at hb2
    exact below_le hb1 hb2 (by omega)
  have hd := dec_true (p := (1 : Int) ≤ (g.length : Int) ∧ (g.length : Int) ≤ 16) (by omega)
  obtain ⟨hl1, hl2⟩ := hlen
  go_enter Tryd.func79, Tryd.ntmps79
  go_wp2_with (first
    | (go_at_call 104; refine (l1Size_any _ g _ ⟨_, rfl, HW1.out ▸ hr1⟩).mono ?_; rintro e w2 ⟨rfl, hb2⟩)
    | (go_at_call 60; refine (l1In_any _ _ _ _).mono ?_; rintro e w3 ⟨rfl, rfl⟩))
  have hb2' : Below W1.heap.size W1 w2 := by rw [← HW1.out] at hb2; exact hb2
  clear hb2
  go_loopw [4] (fun i wr => ∃ k : Nat, k ≤ g.length ∧ i = .int .i64 k ∧ (∀ j, j < k → RowOk g j) ∧ Below W1.heap.size W1 wr) (fun i _ => g.length - (intOf i).toNat)
  case atStart => exact ⟨0, Nat.zero_le _, rfl, fun j hj => by omega, hb2'⟩
  case round =>
    clear hb2'
    obtain ⟨k, hk, rfl, hrows, hbel⟩ := hrel
    have Hrows := Lib.hid hrows
    clear hrows
    have hboxr := hbel.at (by omega) hbox
    have hszr := hbel.size
    by_cases hlt : k < g.length
    · have hrr := hr1.below hbel
      obtain ⟨b, o, rp, rc, rfl, hcell, hnums⟩ := hrr.get hlt
      change wr.cell? _ = some (.slice rp (row g k).length rc) at hcell
      change Nums wr _ _ (.slice rp (row g k).length rc) (row g k) at hnums
      clear hrr
      by_cases hs : SetIn (g.length : Int) (row g k)
      · have hs' := dec_true hs
        by_cases hh : (k : Int) ∈ row g k
        · have hh' := dec_true hh
          have Hh := Lib.hid hh
          have Hs := Lib.hid hs
          clear hh hs
          go_wp2_with (first
            | (go_at_call 125; refine (l1Set_any _ _ _ (by omega) (by omega) _ hnums).mono ?_; rintro e w3 ⟨rfl, hb3⟩; have hboxr3 := hb3.at' hboxr; have hcell3 := hb3.at' hcell; have hnums3 := hnums.below hb3)
            | (go_at_call 101; refine (l1Has_any _ _ _ _ hnums3).mono ?_; rintro e w4 ⟨rfl, rfl⟩))
          go_ret
          exact ⟨ret_bool (false_dec fun h => (h.sets k hlt).2 Hh.out), (hb1.trans (hbel.mono (by omega))).trans (hb3.mono (by omega))⟩
        · have hh' := dec_false hh
          have Hok := Lib.hid (show RowOk g k from ⟨hs, hh⟩)
          clear hh hs
          go_wp2_with (first
            | (go_at_call 125; refine (l1Set_any _ _ _ (by omega) (by omega) _ hnums).mono ?_; rintro e w3 ⟨rfl, hb3⟩; have hboxr3 := hb3.at' hboxr; have hcell3 := hb3.at' hcell; have hnums3 := hnums.below hb3)
            | (go_at_call 101; refine (l1Has_any _ _ _ _ hnums3).mono ?_; rintro e w4 ⟨rfl, rfl⟩))
          go_roundw
          case rel =>
            refine ⟨k + 1, by omega, by go_num, fun j hj => ?_, hbel.trans (hb3.mono (by omega))⟩
            by_cases e : j = k
            · subst e; exact Hok.out
            · exact Hrows.out j (by omega)
          case measure => simp [intOf]; omega
      · have hs' := dec_false hs
        have Hs := Lib.hid hs
        clear hs
        go_wp2_with (go_at_call 125; refine (l1Set_any _ _ _ (by omega) (by omega) _ hnums).mono ?_; rintro e w3 ⟨rfl, hb3⟩)
        go_ret
        exact ⟨ret_bool (false_dec fun h => Hs.out (h.sets k hlt).1), (hb1.trans (hbel.mono (by omega))).trans (hb3.mono (by omega))⟩
    · obtain rfl : k = g.length := by omega
      go_wp2
      obtain ⟨wo, rfl⟩ : ∃ wo : World, wo = wr := ⟨_, rfl⟩
      go_loopw [5, 6] (fun i _ wr => ∃ k : Nat, k ≤ g.length ∧ i = .int .i64 k ∧ (∀ j, j < k → BackTo g j (row g j).length) ∧ Below W1.heap.size W1 wr) (fun i _ _ => g.length - (intOf i).toNat)
      case atStart => exact ⟨0, Nat.zero_le _, rfl, fun j hj => by omega, hbel⟩
      case round =>
        clear hboxr hszr hbel
        obtain ⟨k, hk, rfl, hback, hbel⟩ := hrel
        have Hback := Lib.hid hback
        clear hback
        have hszr := hbel.size
        by_cases hlt : k < g.length
        · go_wp2
          obtain ⟨wi, rfl⟩ : ∃ wi : World, wi = wr := ⟨_, rfl⟩
          go_loopw [6] (fun i wr => ∃ j : Nat, j ≤ (row g k).length ∧ i = .int .i64 j ∧ BackTo g k j ∧ Below W1.heap.size W1 wr) (fun i _ => (row g k).length - (intOf i).toNat)
          case atStart => exact ⟨0, Nat.zero_le _, rfl, fun u hu => by simp at hu, hbel⟩
          case round =>
            clear hbel hszr
            obtain ⟨i, hi, rfl, hbk, hbel⟩ := hrel
            have Hbk := Lib.hid hbk
            clear hbk
            have hboxr := hbel.at (by omega) hbox
            have hszr := hbel.size
            have hrr := hr1.below hbel
            obtain ⟨b, o, rp, rc, rfl, hcell, hnums⟩ := hrr.get hlt
            change wr.cell? _ = some (.slice rp (row g k).length rc) at hcell
            change Nums wr _ _ (.slice rp (row g k).length rc) (row g k) at hnums
            by_cases hlti : i < (row g k).length
            · obtain ⟨m, hm, hmn⟩ := row_bound (Hrows.out k hlt) hlti
              obtain ⟨_, _, hv, _, _, _, hat⟩ := hnums
              simp only [Value.slice.injEq, true_and] at hv
              obtain ⟨rfl, rfl⟩ := hv
              obtain ⟨b2, o2, rfl, hcell2⟩ := hat.num hlti
              rw [hm] at hcell2
              obtain ⟨b', o', rp', rc', he, hcell3, hnums3⟩ := hrr.get hmn
              simp only [Option.some.injEq, Addr.mk.injEq, and_true] at he
              obtain ⟨rfl, rfl⟩ := he
              change wr.cell? _ = some (.slice rp' (row g m).length rc') at hcell3
              change Nums wr _ _ (.slice rp' (row g m).length rc') (row g m) at hnums3
              clear hat hrr
              have Hm := Lib.hid hm
              clear hm
              by_cases hh : (k : Int) ∈ row g m
              · have hh' := dec_true hh
                have Hh := Lib.hid hh
                clear hh
                go_wp2
                go_quiet ((go_at_call 101; exact Calls.quiet_of_same (flip (l1Has_any _ _ _ _ (hnums3.below (below_dN (Below.refl _ _) _))))))
                go_wp2
                go_roundw
                case rel =>
                  refine ⟨i + 1, by omega, by go_num, backTo_step hlti Hbk.out ?_, below_dN hbel _⟩
                  rw [Hm.out, Int.toNat_natCast]; exact Hh.out
                case measure => simp [intOf]; omega
              · have hh' := dec_false hh
                have Hh := Lib.hid hh
                clear hh
                go_wp2
                go_quiet ((go_at_call 101; exact Calls.quiet_of_same (flip (l1Has_any _ _ _ _ (hnums3.below (below_dN (Below.refl _ _) _))))))
                go_wp2
                go_ret
                refine ⟨ret_bool (false_dec fun h => Hh.out ?_), hb1.trans ((below_dN hbel _).mono (by omega))⟩
                have := h.both k hlt _ (List.getElem_mem hlti)
                rwa [Hm.out, Int.toNat_natCast] at this
            · obtain rfl : i = (row g k).length := by omega
              go_wp2
              go_roundw
              case rel =>
                refine ⟨k + 1, by omega, by go_num, fun j hj => ?_, hbel⟩
                by_cases e : j = k
                · subst e; exact Hbk.out
                · exact Hback.out j (by omega)
              case measure => simp [intOf]; omega
        · obtain rfl : k = g.length := by omega
          go_wp2
          go_ret
          exact ⟨ret_bool (true_dec (gOk_of ⟨hl1, hl2⟩ Hrows.out Hback.out)), hb1.trans (hbel.mono (by omega))⟩

end Go.Proofs.YtfphapcgjlhieaaDoor
