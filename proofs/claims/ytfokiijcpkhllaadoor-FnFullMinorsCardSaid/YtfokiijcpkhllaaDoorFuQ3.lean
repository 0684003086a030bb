/- Walks: the reference's GraphOk and the program's. -/
import Derived.Test.YtfokiijcpkhllaaDoorFuQ2
import Derived.Deep.RegionWith
namespace Go.Proofs.YtfokiijcpkhllaaDoor
open Go.RowKit

/-- A graph value: a struct of one slice of rows. -/
def Gr (w : World) (v : Value) (g : List (List Int)) : Prop := ∃ u, v = .agg #[u] ∧ Rws w 32 2 u g

theorem Gr.below {w w' : World} {v : Value} {g : List (List Int)} (h : Gr w v g) (hb : Below w.heap.size w w') : Gr w' v g := by
  obtain ⟨u, rfl, hr⟩ := h
  exact ⟨u, rfl, hr.below hb⟩

set_option maxHeartbeats 400000 in
theorem l1Size_any (v : Value) (g : List (List Int)) (w : World) (hg : Gr w v g) :
    Calls Tryd.prog 60 #[v] w fun e w' => e = .returned (.int .i64 g.length) ∧ Below w.heap.size w w' := by
  obtain ⟨u, rfl, hr⟩ := hg
  obtain ⟨p, c, rfl, _, _, hn⟩ := hr.shape
  have hb := below_alloc w (.cells #[.slice p g.length c] 29)
  go_enter Tryd.func60, Tryd.ntmps60
  go_wp2
  go_ret
  exact ⟨rfl, hb⟩

/-- Row j of a graph of n rows is right by itself. -/
def RowOk (g : List (List Int)) (j : Nat) : Prop := SetIn g.length (row g j) ∧ (j : Int) ∉ row g j
/-- The first i neighbours of k have k as a neighbour. -/
def BackTo (g : List (List Int)) (k i : Nat) : Prop := ∀ u ∈ (row g k).take i, (k : Int) ∈ row g u.toNat

theorem gOk_of {g : List (List Int)} (h1 : 1 ≤ g.length ∧ g.length ≤ 16) (h2 : ∀ j, j < g.length → RowOk g j) (h3 : ∀ k, k < g.length → BackTo g k (row g k).length) : GOk g :=
  ⟨h1.1, h1.2, h2, fun v hv u hu => h3 v hv u (by rwa [List.take_length])⟩
theorem rowOk_of {g : List (List Int)} (h : GOk g) {j : Nat} (hj : j < g.length) : RowOk g j := h.sets j hj
theorem backTo_of {g : List (List Int)} (h : GOk g) {k : Nat} (hk : k < g.length) (i : Nat) : BackTo g k i := fun u hu => h.both k hk u (List.mem_of_mem_take hu)
theorem backTo_step {g : List (List Int)} {k i : Nat} (hi : i < (row g k).length) (h : BackTo g k i) (h2 : (k : Int) ∈ row g ((row g k)[i]).toNat) : BackTo g k (i + 1) := by
  intro u hu
  rw [take_snoc' _ i hi] at hu
  rcases List.mem_append.1 hu with hu | hu
  · exact h u hu
  · simp at hu; subst hu; exact h2
theorem row_bound {g : List (List Int)} {k i : Nat} (h : RowOk g k) (hi : i < (row g k).length) : ∃ m : Nat, (row g k)[i] = (m : Int) ∧ m < g.length := by
  have := h.1.1 _ (List.getElem_mem hi)
  exact ⟨((row g k)[i]).toNat, by omega, by omega⟩

set_option maxRecDepth 100000 in
set_option maxHeartbeats 2000000 in
theorem specGraphOk_any (v : Value) (g : List (List Int)) (w : World) (hg : Gr w v g) :
    Calls Tryd.prog 50 #[v] w fun e w' => e = .returned (.bool (dec (GOk g))) ∧ Below w.heap.size w w' := by
  obtain ⟨u, rfl, hr⟩ := hg
  obtain ⟨p, c, rfl, _, _, hn⟩ := hr.shape
  obtain ⟨W1, hW1⟩ : ∃ W1, W1 = w.alloc (.cells #[.slice p g.length c] 29) := ⟨_, rfl⟩
  have hs1 : W1.heap.size = w.heap.size + 1 := by rw [hW1]; exact size_alloc _ _
  have hb1 : Below w.heap.size w W1 := by rw [hW1]; exact below_alloc _ _
  have hbox : W1.cell? ⟨w.heap.size, 0, none⟩ = some (.slice p g.length c) := by rw [hW1]; exact cell_new _ _ _
  have hr1 := hr.below hb1
  have HW1 := Lib.hid hW1
  have hs1' : w.heap.size < W1.heap.size := by omega
  clear hW1 hs1 hr
  by_cases hlen : 1 ≤ g.length ∧ g.length ≤ 16
  case neg =>
    have hd := dec_false (p := (1 : Int) ≤ (g.length : Int) ∧ (g.length : Int) ≤ 16) (by omega)
    have Hlen := Lib.hid hlen
    clear hlen
    go_enter Tryd.func50, Tryd.ntmps50
    go_wp2_with (first
      | (go_at_call 60; refine (l1Size_any _ g _ ⟨_, rfl, HW1.out ▸ hr1⟩).mono ?_; rintro e w2 ⟨rfl, hb2⟩)
      | (go_at_call 101; refine (l1In_any _ _ _ _).mono ?_; rintro e w3 ⟨rfl, rfl⟩))
    go_ret
    refine ⟨ret_bool (false_dec fun h => Hlen.out ⟨h.pos, h.le⟩), ?_⟩
    rw [← HW1.out] at hb2
    exact below_le hb1 hb2 (by omega)
  have hd := dec_true (p := (1 : Int) ≤ (g.length : Int) ∧ (g.length : Int) ≤ 16) (by omega)
  obtain ⟨hl1, hl2⟩ := hlen
  go_enter Tryd.func50, Tryd.ntmps50
  go_wp2_with (first
    | (go_at_call 60; refine (l1Size_any _ g _ ⟨_, rfl, HW1.out ▸ hr1⟩).mono ?_; rintro e w2 ⟨rfl, hb2⟩)
    | (go_at_call 101; refine (l1In_any _ _ _ _).mono ?_; rintro e w3 ⟨rfl, rfl⟩))
  have hb2' : Below W1.heap.size W1 w2 := by rw [← HW1.out] at hb2; exact hb2
  clear hb2
  go_loopw [4] (fun i wr => ∃ k : Nat, k ≤ g.length ∧ i = .int .i64 k ∧ (∀ j, j < k → RowOk g j) ∧ Below W1.heap.size W1 wr) (fun i _ => g.length - (intOf i).toNat)
  case atStart => exact ⟨0, Nat.zero_le _, rfl, fun j hj => by omega, hb2'⟩
  case round =>
    clear hb2'
    obtain ⟨k, hk, rfl, hrows, hbel⟩ := hrel
    have Hrows := Lib.hid hrows
    clear hrows
    have hboxr := hbel.at (by omega) hbox
    have hszr := hbel.size
    by_cases hlt : k < g.length
    · have hrr := hr1.below hbel
      obtain ⟨b, o, rp, rc, rfl, hcell, hnums⟩ := hrr.get hlt
      change wr.cell? _ = some (.slice rp (row g k).length rc) at hcell
      change Nums wr _ _ (.slice rp (row g k).length rc) (row g k) at hnums
      clear hrr
      by_cases hs : SetIn (g.length : Int) (row g k)
      · have hs' := dec_true hs
        by_cases hh : (k : Int) ∈ row g k
        · have hh' := dec_true hh
          have Hh := Lib.hid hh
          have Hs := Lib.hid hs
          clear hh hs
          go_wp2_with (first
            | (go_at_call 103; refine (l1Set_any _ _ _ (by omega) (by omega) _ hnums).mono ?_; rintro e w3 ⟨rfl, hb3⟩; have hboxr3 := hb3.at' hboxr; have hcell3 := hb3.at' hcell; have hnums3 := hnums.below hb3)
            | (go_at_call 66; refine (l1Has_any _ _ _ _ hnums3).mono ?_; rintro e w4 ⟨rfl, rfl⟩))
          go_ret
          exact ⟨ret_bool (false_dec fun h => (h.sets k hlt).2 Hh.out), (hb1.trans (hbel.mono (by omega))).trans (hb3.mono (by omega))⟩
        · have hh' := dec_false hh
          have Hok := Lib.hid (show RowOk g k from ⟨hs, hh⟩)
          clear hh hs
          go_wp2_with (first
            | (go_at_call 103; refine (l1Set_any _ _ _ (by omega) (by omega) _ hnums).mono ?_; rintro e w3 ⟨rfl, hb3⟩; have hboxr3 := hb3.at' hboxr; have hcell3 := hb3.at' hcell; have hnums3 := hnums.below hb3)
            | (go_at_call 66; refine (l1Has_any _ _ _ _ hnums3).mono ?_; rintro e w4 ⟨rfl, rfl⟩))
          go_roundw
          case rel =>
            refine ⟨k + 1, by omega, by go_num, fun j hj => ?_, hbel.trans (hb3.mono (by omega))⟩
            by_cases e : j = k
            · subst e; exact Hok.out
            · exact Hrows.out j (by omega)
          case measure => simp [intOf]; omega
      · have hs' := dec_false hs
        have Hs := Lib.hid hs
        clear hs
        go_wp2_with (go_at_call 103; refine (l1Set_any _ _ _ (by omega) (by omega) _ hnums).mono ?_; rintro e w3 ⟨rfl, hb3⟩)
        go_ret
        exact ⟨ret_bool (false_dec fun h => Hs.out (h.sets k hlt).1), (hb1.trans (hbel.mono (by omega))).trans (hb3.mono (by omega))⟩
    · obtain rfl : k = g.length := by omega
      go_wp2
      obtain ⟨wo, rfl⟩ : ∃ wo : World, wo = wr := ⟨_, rfl⟩
      go_loopw [5, 6] (fun i _ wr => ∃ k : Nat, k ≤ g.length ∧ i = .int .i64 k ∧ (∀ j, j < k → BackTo g j (row g j).length) ∧ Below W1.heap.size W1 wr) (fun i _ _ => g.length - (intOf i).toNat)
      case atStart => exact ⟨0, Nat.zero_le _, rfl, fun j hj => by omega, hbel⟩
      case round =>
        clear hboxr hszr hbel
        obtain ⟨k, hk, rfl, hback, hbel⟩ := hrel
        have Hback := Lib.hid hback
        clear hback
        have hszr := hbel.size
        by_cases hlt : k < g.length
        · go_wp2
          obtain ⟨wi, rfl⟩ : ∃ wi : World, wi = wr := ⟨_, rfl⟩
          go_loopw [6] (fun i wr => ∃ j : Nat, j ≤ (row g k).length ∧ i = .int .i64 j ∧ BackTo g k j ∧ Below W1.heap.size W1 wr) (fun i _ => (row g k).length - (intOf i).toNat)
          case atStart => exact ⟨0, Nat.zero_le _, rfl, fun u hu => by simp at hu, hbel⟩
          case round =>
            clear hbel hszr
            obtain ⟨i, hi, rfl, hbk, hbel⟩ := hrel
            have Hbk := Lib.hid hbk
            clear hbk
            have hboxr := hbel.at (by omega) hbox
            have hszr := hbel.size
            have hrr := hr1.below hbel
            obtain ⟨b, o, rp, rc, rfl, hcell, hnums⟩ := hrr.get hlt
            change wr.cell? _ = some (.slice rp (row g k).length rc) at hcell
            change Nums wr _ _ (.slice rp (row g k).length rc) (row g k) at hnums
            by_cases hlti : i < (row g k).length
            · obtain ⟨m, hm, hmn⟩ := row_bound (Hrows.out k hlt) hlti
              obtain ⟨_, _, hv, _, _, _, hat⟩ := hnums
              simp only [Value.slice.injEq, true_and] at hv
              obtain ⟨rfl, rfl⟩ := hv
              obtain ⟨b2, o2, rfl, hcell2⟩ := hat.num hlti
              rw [hm] at hcell2
              obtain ⟨b', o', rp', rc', he, hcell3, hnums3⟩ := hrr.get hmn
              simp only [Option.some.injEq, Addr.mk.injEq, and_true] at he
              obtain ⟨rfl, rfl⟩ := he
              change wr.cell? _ = some (.slice rp' (row g m).length rc') at hcell3
              change Nums wr _ _ (.slice rp' (row g m).length rc') (row g m) at hnums3
              clear hat hrr
              have Hm := Lib.hid hm
              clear hm
              by_cases hh : (k : Int) ∈ row g m
              · have hh' := dec_true hh
                have Hh := Lib.hid hh
                clear hh
                go_wp2
                go_quiet ((go_at_call 66; exact Calls.quiet_of_same (flip (l1Has_any _ _ _ _ (hnums3.below (below_dN (Below.refl _ _) _))))))
                go_wp2
                go_roundw
                case rel =>
                  refine ⟨i + 1, by omega, by go_num, backTo_step hlti Hbk.out ?_, below_dN hbel _⟩
                  rw [Hm.out, Int.toNat_natCast]; exact Hh.out
                case measure => simp [intOf]; omega
              · have hh' := dec_false hh
                have Hh := Lib.hid hh
                clear hh
                go_wp2
                go_quiet ((go_at_call 66; exact Calls.quiet_of_same (flip (l1Has_any _ _ _ _ (hnums3.below (below_dN (Below.refl _ _) _))))))
                go_wp2
                go_ret
                refine ⟨ret_bool (false_dec fun h => Hh.out ?_), hb1.trans ((below_dN hbel _).mono (by omega))⟩
                have := h.both k hlt _ (List.getElem_mem hlti)
                rwa [Hm.out, Int.toNat_natCast] at this
            · obtain rfl : i = (row g k).length := by omega
              go_wp2
              go_roundw
              case rel =>
                refine ⟨k + 1, by omega, by go_num, fun j hj => ?_, hbel⟩
                by_cases e : j = k
                · subst e; exact Hbk.out
                · exact Hback.out j (by omega)
              case measure => simp [intOf]; omega
        · obtain rfl : k = g.length := by omega
          go_wp2
          go_ret
          exact ⟨ret_bool (true_dec (gOk_of ⟨hl1, hl2⟩ Hrows.out Hback.out)), hb1.trans (hbel.mono (by omega))⟩

end Go.Proofs.YtfokiijcpkhllaaDoor

/- Walks: what the exact laws do with their arguments and results: size, copy, compare, mark, hold. -/
namespace Go.Proofs.YtfokiijcpkhllaaDoor
open Go.RowKit

/-- From p on lie the cells vals, whatever the block says of its elements: what an argument reads as. -/
def Cl (w : World) (p : Option Addr) (vals : List Value) : Prop :=
  vals = [] ∨ ∃ b o, p = some ⟨b, o, none⟩ ∧ ∀ j u, vals[j]? = some u → w.cell? ⟨b, o + j, none⟩ = some u
def ArgN (w : World) (v : Value) (xs : List Int) : Prop := ∃ p c, v = .slice p xs.length c ∧ xs.length ≤ 9223372036854775807 ∧ Cl w p (xs.map (Value.int .i64))
def ArgR (w : World) (v : Value) (g : List (List Int)) : Prop :=
  ∃ p c vals, v = .slice p g.length c ∧ g.length ≤ 9223372036854775807 ∧ vals.length = g.length ∧ Cl w p vals ∧ ∀ j, j < g.length → ArgN w (vals.getD j undef) (g.getD j [])
/-- A law's graph. -/
def ArgG (w : World) (v : Value) (g : List (List Int)) : Prop := ∃ u, v = .agg #[u] ∧ ArgR w u g

theorem Cl.below {w w' : World} {p : Option Addr} {vals : List Value} (h : Cl w p vals) (hb : Below w.heap.size w w') : Cl w' p vals := by
  rcases h with h | ⟨b, o, h1, h2⟩
  · exact .inl h
  · exact .inr ⟨b, o, h1, fun j u hu => hb.at' (h2 j u hu)⟩
theorem ArgN.below {w w' : World} {v : Value} {xs : List Int} (h : ArgN w v xs) (hb : Below w.heap.size w w') : ArgN w' v xs := by
  obtain ⟨p, c, h1, h2, h3⟩ := h
  exact ⟨p, c, h1, h2, h3.below hb⟩
theorem ArgR.below {w w' : World} {v : Value} {g : List (List Int)} (h : ArgR w v g) (hb : Below w.heap.size w w') : ArgR w' v g := by
  obtain ⟨p, c, vals, h1, h2, h3, h4, h5⟩ := h
  exact ⟨p, c, vals, h1, h2, h3, h4.below hb, fun j hj => (h5 j hj).below hb⟩
theorem ArgG.below {w w' : World} {v : Value} {g : List (List Int)} (h : ArgG w v g) (hb : Below w.heap.size w w') : ArgG w' v g := by
  obtain ⟨u, h1, h2⟩ := h
  exact ⟨u, h1, h2.below hb⟩
theorem Cl.get {w : World} {p : Option Addr} {vals : List Value} (h : Cl w p vals) {k : Nat} (hk : k < vals.length) : ∃ b o, p = some ⟨b, o, none⟩ ∧ w.cell? ⟨b, o + k, none⟩ = some vals[k] := by
  rcases h with h | ⟨b, o, h1, h2⟩
  · subst h; simp at hk
  · exact ⟨b, o, h1, h2 k _ (by simp [hk])⟩
theorem Cl.num {w : World} {p : Option Addr} {xs : List Int} (h : Cl w p (xs.map (Value.int .i64))) {k : Nat} (hk : k < xs.length) : ∃ b o, p = some ⟨b, o, none⟩ ∧ w.cell? ⟨b, o + k, none⟩ = some (.int .i64 xs[k]) := by
  obtain ⟨b, o, h1, h2⟩ := h.get (k := k) (by simpa using hk)
  exact ⟨b, o, h1, by rw [h2]; simp⟩
theorem ArgR.get {w : World} {p : Option Addr} {n c : Nat} {g : List (List Int)} (h : ArgR w (.slice p n c) g) {k : Nat} (hk : k < g.length) :
    ∃ b o rp rc, p = some ⟨b, o, none⟩ ∧ w.cell? ⟨b, o + k, none⟩ = some (.slice rp (row g k).length rc) ∧ ArgN w (.slice rp (row g k).length rc) (row g k) := by
  obtain ⟨p', c', vals, he, _, hl, hcl, hr⟩ := h
  simp only [Value.slice.injEq] at he
  obtain ⟨rfl, rfl, rfl⟩ := he
  obtain ⟨b, o, hp, hc⟩ := hcl.get (k := k) (by omega)
  have hrow := hr k hk
  have e : vals.getD k undef = vals[k] := by simp [hl, hk]
  rw [e] at hrow
  obtain ⟨rp, rc, hv, _⟩ := id hrow
  rw [hv] at hc hrow
  exact ⟨b, o, rp, rc, hp, hc, hrow⟩

theorem take_replicate_set {α : Type} (xs ys : List α) (k : Nat) (z : α) (hy : ys = xs.take k ++ List.replicate (xs.length - k) z) (hk : k < xs.length) :
    ys.set k xs[k] = xs.take (k + 1) ++ List.replicate (xs.length - (k + 1)) z := by
  subst hy
  have hl : (xs.take k).length = k := by rw [List.length_take]; omega
  have e : xs.length - k = (xs.length - (k + 1)) + 1 := by omega
  rw [List.set_append, if_neg (by omega), hl, Nat.sub_self, e, List.replicate_succ, List.set_cons_zero, take_snoc xs k hk, List.append_assoc]
  rfl

end Go.Proofs.YtfokiijcpkhllaaDoor

/- What a law's bytes read as. -/
namespace Go.Proofs.YtfokiijcpkhllaaDoor
open Go.RowKit

def ArgB (w : World) (v : Value) (bs : List Int) : Prop := ∃ p c, v = .slice p bs.length c ∧ bs.length ≤ 9223372036854775807 ∧ (∀ x ∈ bs, 0 ≤ x ∧ x ≤ 255) ∧ Cl w p (bs.map (Value.int .u8))
theorem ArgB.below {w w' : World} {v : Value} {bs : List Int} (h : ArgB w v bs) (hb : Below w.heap.size w w') : ArgB w' v bs := by
  obtain ⟨p, c, h1, h2, h3, h4⟩ := h
  exact ⟨p, c, h1, h2, h3, h4.below hb⟩
theorem ArgB.get {w : World} {p : Option Addr} {n c : Nat} {bs : List Int} (h : ArgB w (.slice p n c) bs) {k : Nat} (hk : k < bs.length) :
    ∃ b o, p = some ⟨b, o, none⟩ ∧ w.cell? ⟨b, o + k, none⟩ = some (.int .u8 bs[k]) ∧ 0 ≤ bs[k] ∧ bs[k] ≤ 255 := by
  obtain ⟨p', c', e, _, h3, h4⟩ := h
  cases e
  rcases h4 with h4 | ⟨b, o, rfl, h5⟩
  · rw [List.map_eq_nil_iff] at h4
    subst h4
    simp at hk
  · refine ⟨b, o, rfl, h5 k _ (by simp [hk]), h3 _ (List.getElem_mem hk)⟩

end Go.Proofs.YtfokiijcpkhllaaDoor

/- Plain facts, with no program in sight: the reference's list operations. -/
namespace Go.Proofs.YtfokiijcpkhllaaDoor

/-- A list without a number. -/
def lessL (s : List Int) (v : Int) : List Int := s.filter (fun x => x != v)
/-- A rising list with one more. -/
def intoL : List Int → Int → List Int
  | [], n => [n]
  | x :: xs, n => if x < n then x :: intoL xs n else if x = n then x :: xs else n :: x :: xs
/-- 0, 1, .., n - 1. -/
def allL (n : Nat) : List Int := (List.range n).map (fun (i : Nat) => (i : Int))

theorem allL_length (n : Nat) : (allL n).length = n := by simp [allL]
theorem allL_succ (n : Nat) : allL (n + 1) = allL n ++ [(n : Int)] := by simp [allL, List.range_succ]
theorem mem_allL {n : Nat} {x : Int} : x ∈ allL n ↔ 0 ≤ x ∧ x < n := by
  simp only [allL, List.mem_map, List.mem_range]
  constructor
  · rintro ⟨i, hi, rfl⟩; omega
  · rintro ⟨h1, h2⟩; exact ⟨x.toNat, by omega, by omega⟩
theorem allL_rising (n : Nat) : (allL n).Pairwise (· < ·) := by
  unfold allL
  rw [List.pairwise_map]
  exact List.Pairwise.imp (fun h => by omega) List.pairwise_lt_range

theorem mem_lessL {s : List Int} {v x : Int} : x ∈ lessL s v ↔ x ∈ s ∧ x ≠ v := by simp [lessL]
theorem lessL_length (s : List Int) (v : Int) : (lessL s v).length ≤ s.length := List.length_filter_le _ _
theorem lessL_snoc (s : List Int) (v x : Int) : lessL (s ++ [x]) v = if x = v then lessL s v else lessL s v ++ [x] := by
  by_cases h : x = v
  · simp [lessL, h, List.filter_append]
  · simp [lessL, h, List.filter_append]
theorem lessL_rising {s : List Int} (h : s.Pairwise (· < ·)) (v : Int) : (lessL s v).Pairwise (· < ·) := h.filter _

theorem intoL_cut : ∀ (l : List Int) (n : Int) (k : Nat), k ≤ l.length → (∀ j (hj : j < l.length), j < k → l[j] < n) → (∀ h : k < l.length, ¬ l[k] < n) →
    intoL l n = if ∃ h : k < l.length, l[k] = n then l else l.take k ++ n :: l.drop k
  | [], n, k, hk, _, _ => by
    obtain rfl : k = 0 := by simpa using hk
    simp [intoL]
  | x :: xs, n, 0, hk, _, h2 => by
    have h3 : ¬ x < n := h2 (by simp)
    unfold intoL
    rw [if_neg h3]
    by_cases e : x = n
    · simp [e]
    · simp [e]
  | x :: xs, n, k + 1, hk, h1, h2 => by
    have h3 : x < n := h1 0 (by simp) (by omega)
    unfold intoL
    rw [if_pos h3, intoL_cut xs n k (by simpa using hk) (fun j hj hjk => h1 (j + 1) (by simpa using hj) (by omega)) (fun h => h2 (by simpa using h))]
    by_cases e : ∃ h : k < xs.length, xs[k] = n
    · rw [if_pos e, if_pos (by obtain ⟨a, b⟩ := e; exact ⟨by simpa using a, by simpa using b⟩)]
    · rw [if_neg e, if_neg (by rintro ⟨a, b⟩; exact e ⟨by simpa using a, by simpa using b⟩)]
      simp

theorem intoL_eq {l : List Int} {n : Int} {k : Nat} (hk : k < l.length) (h1 : ∀ j (hj : j < l.length), j < k → l[j] < n) (h2 : ¬ l[k] < n) (h3 : l[k] = n) : intoL l n = l := by
  rw [intoL_cut l n k (by omega) h1 (fun _ => h2), if_pos ⟨hk, h3⟩]
theorem intoL_new {l : List Int} {n : Int} {k : Nat} (hk : k ≤ l.length) (h1 : ∀ j (hj : j < l.length), j < k → l[j] < n) (h2 : ∀ h : k < l.length, ¬ l[k] < n) (h3 : ∀ h : k < l.length, l[k] ≠ n) : intoL l n = l.take k ++ n :: l.drop k := by
  rw [intoL_cut l n k hk h1 h2, if_neg (by rintro ⟨a, b⟩; exact h3 a b)]

theorem mem_intoL {n x : Int} : ∀ {l : List Int}, x ∈ intoL l n ↔ x ∈ l ∨ x = n
  | [] => by simp [intoL]
  | y :: l => by
    unfold intoL
    split
    · simp only [List.mem_cons, mem_intoL (l := l)]; exact ⟨fun h => by rcases h with h | h | h <;> simp [h], fun h => by rcases h with (h | h) | h <;> simp [h]⟩
    · split
      · rename_i h; subst h; simp only [List.mem_cons]; exact ⟨fun h => .inl h, fun h => by rcases h with h | h; exact h; exact .inl h⟩
      · simp only [List.mem_cons]; exact ⟨fun h => by rcases h with h | h | h <;> simp [h], fun h => by rcases h with (h | h) | h <;> simp [h]⟩

theorem intoL_rising {n : Int} : ∀ {l : List Int}, l.Pairwise (· < ·) → (intoL l n).Pairwise (· < ·)
  | [], _ => by simp [intoL]
  | y :: l, h => by
    rw [List.pairwise_cons] at h
    unfold intoL
    split
    · rename_i hy
      rw [List.pairwise_cons]
      refine ⟨fun z hz => ?_, intoL_rising h.2⟩
      rcases mem_intoL.1 hz with hz | rfl
      · exact h.1 z hz
      · exact hy
    · split
      · rw [List.pairwise_cons]; exact h
      · rw [List.pairwise_cons, List.pairwise_cons]
        refine ⟨fun z hz => ?_, h⟩
        rcases List.mem_cons.1 hz with rfl | hz
        · omega
        · have := h.1 z hz; omega

theorem intoL_length (l : List Int) (n : Int) : (intoL l n).length ≤ l.length + 1 := by
  induction l with
  | nil => simp [intoL]
  | cons x l ih =>
    unfold intoL
    split
    · simp; omega
    · split <;> simp

end Go.Proofs.YtfokiijcpkhllaaDoor

/- Walks: the reference's list operations that make memory. -/
namespace Go.Proofs.YtfokiijcpkhllaaDoor
open Go.RowKit

set_option maxRecDepth 100000 in
set_option maxHeartbeats 1000000 in
theorem l1Copy_any (v : Value) (n : Nat) (vals : List Value) (h1 : ∀ x ∈ vals, x.oneCell' = true) (hl : vals.length = n) (w : World) (hx : Sl w 2 v n vals) :
    Calls Tryd.prog 127 #[v] w fun e w' => ∃ u, e = .returned u ∧ w'.ownsRow w.heap.size 2 1 u n vals ∧ Below w.heap.size w w' := by
  have hn := hx
  obtain ⟨p, c, rfl, _, _, hn, _⟩ := hn
  have hx' := hx.below (below_alloc w (.cells #[] 2))
  have ho := ownsRow_empty w 2 1
  have hb := below_alloc w (.cells #[] 2)
  have hsz : w.heap.size ≤ (w.alloc (.cells #[] 2)).heap.size := hb.size
  have Hl := Lib.hid hl
  clear hl
  go_enter Tryd.func127, Tryd.ntmps127
  go_wp2_with (at_builtin; refine wpList_app ty_i64 rfl rfl rfl ho rfl hx' (by have := Hl.out; omega) h1 (by omega) hsz ?_; intro v' w1 hown' hg _)
  go_ret
  refine ⟨_, rfl, by simpa using hown', below_grown hb ho hg (Nat.le_refl _) hsz⟩

theorem oneCell_ints (K : IntKind) (xs : List Int) : ∀ x ∈ xs.map (Value.int K), x.oneCell' = true := by
  intro x hx
  obtain ⟨y, _, rfl⟩ := List.mem_map.1 hx
  rfl

set_option maxRecDepth 100000 in
set_option maxHeartbeats 1000000 in
theorem l19Less_any (v : Value) (xs : List Int) (n : Int) (w : World) (hx : Nums w 2 .i64 v xs) :
    Calls Tryd.prog 69 #[v, .int .i64 n] w fun e w' => ∃ u, e = .returned u ∧
      w'.ownsRow w.heap.size 2 1 u (lessL xs n).length ((lessL xs n).map (Value.int .i64)) ∧ Below w.heap.size w w' := by
  obtain ⟨p, c, rfl, _, _, hn, hat⟩ := hx
  go_enter Tryd.func69, Tryd.ntmps69
  go_wp2
  go_loopw [5, 6] (fun u i wr => ∃ k : Nat, k ≤ xs.length ∧ i = .int .i64 k ∧ wr.ownsRow w.heap.size 2 1 u (lessL (xs.take k) n).length ((lessL (xs.take k) n).map (Value.int .i64)) ∧ Below w.heap.size w wr)
    (fun _ i _ => xs.length - (intOf i).toNat)
  case atStart => exact ⟨0, Nat.zero_le _, rfl, ownsRow_empty _ _ _, below_alloc _ _⟩
  case round =>
    obtain ⟨k, hk, rfl, hown, hbel⟩ := hrel
    by_cases hlt : k < xs.length
    · obtain ⟨b, o, rfl, hc⟩ := hat.num hlt
      have hcell := hbel.at' hc
      have ht := Lib.hid (take_snoc xs k hlt)
      have hsz := hbel.size
      have hle : (lessL (xs.take k) n).length < 1000000000 := by have := lessL_length (xs.take k) n; rw [List.length_take] at this; omega
      clear hc hat
      by_cases he : xs[k] = n
      · have he' : (xs[k] != n) = false := by simpa using he
        have He := Lib.hid he
        clear he
        go_wp2
        go_roundw
        case rel => exact ⟨k + 1, by omega, by go_num, by rw [ht.out, lessL_snoc, if_pos He.out]; exact hown, hbel⟩
        case measure => simp [intOf]; omega
      · have he' : (xs[k] != n) = true := by simpa using he
        have He := Lib.hid he
        clear he
        go_wp2_with (at_builtin; refine wpList_app1 ty_i64 rfl rfl rfl hown rfl rfl hle hsz ?_; intro v' w1 hown' hg _)
        go_roundw
        case rel =>
          refine ⟨k + 1, by omega, by go_num, ?_, below_grown hbel hown hg (Nat.le_refl _) hsz⟩
          rw [ht.out, lessL_snoc, if_neg He.out, List.map_append, List.length_append]; exact hown'
        case measure => simp [intOf]; omega
    · obtain rfl : k = xs.length := by omega
      go_wp2
      go_ret
      rw [List.take_length] at hown
      exact ⟨_, rfl, hown, hbel⟩

set_option maxRecDepth 100000 in
set_option maxHeartbeats 1000000 in
theorem l16All_any (v : Value) (g : List (List Int)) (hl : g.length ≤ 1000) (w : World) (hg : Gr w v g) :
    Calls Tryd.prog 55 #[v] w fun e w' => ∃ u, e = .returned u ∧
      w'.ownsRow w.heap.size 2 1 u g.length ((allL g.length).map (Value.int .i64)) ∧ Below w.heap.size w w' := by
  obtain ⟨u, rfl, hr⟩ := hg
  obtain ⟨p, c, rfl, _, _, hn⟩ := hr.shape
  have hbox := Box.new w (.slice p g.length c) 29
  have hb1 := below_alloc w (.cells #[.slice p g.length c] 29)
  go_enter Tryd.func55, Tryd.ntmps55
  go_wp2
  go_loopw [3, 4] (fun u i wr => ∃ k : Nat, k ≤ g.length ∧ i = .int .i64 k ∧ wr.ownsRow (w.heap.size + 1) 2 1 u k ((allL k).map (Value.int .i64)) ∧ Below w.heap.size w wr ∧ Box wr w.heap.size 29 (.slice p g.length c))
    (fun _ i _ => g.length - (intOf i).toNat)
  case atStart => exact ⟨0, Nat.zero_le _, rfl, ownsRow_empty' _ _ _ _ _ (Nat.le_refl _), hb1.alloc (by rw [size_alloc]; omega) _, hbox.alloc _⟩
  case round =>
    clear hbox hb1
    obtain ⟨k, hk, rfl, hown, hbel, hbx⟩ := hrel
    obtain ⟨hc, hf, hlt0, _⟩ := id hbx
    have hsz := hbel.size
    by_cases hlt : k < g.length
    · go_wp2_with (at_builtin; refine wpList_app1 ty_i64 rfl rfl rfl hown rfl rfl (by omega) (by omega) ?_; intro v' w1 hown' hg _)
      go_roundw
      case rel =>
        refine ⟨k + 1, by omega, by go_num, ?_, below_grown hbel hown hg (by omega) hsz, ?_⟩
        · rw [allL_succ, List.map_append]; exact hown'
        · exact hbx.below (below_grown (Below.refl (w.heap.size + 1) wr) hown hg (Nat.le_refl _) (by omega)) (by omega)
      case measure => simp [intOf]; omega
    · obtain rfl : k = g.length := by omega
      go_wp2
      go_ret
      exact ⟨_, rfl, ownsRow_base hown (by omega), hbel⟩

end Go.Proofs.YtfokiijcpkhllaaDoor

/- Walk: the reference's list with one more. -/
namespace Go.Proofs.YtfokiijcpkhllaaDoor
open Go.RowKit

set_option maxRecDepth 100000 in
set_option maxHeartbeats 1000000 in
theorem l1Into_any (v : Value) (xs : List Int) (n : Int) (hl : xs.length ≤ 100000000) (w : World) (hx : Nums w 2 .i64 v xs) :
    Calls Tryd.prog 115 #[v, .int .i64 n] w fun e w' => ∃ u, e = .returned u ∧ Nums w' 2 .i64 u (intoL xs n) ∧ Below w.heap.size w w' := by
  have hx0 := Lib.hid hx
  obtain ⟨p, c, rfl, hp, hnc, hn, hat⟩ := hx
  go_enter Tryd.func115, Tryd.ntmps115
  go_wp2
  go_loop [5] (fun i => ∃ k : Nat, k ≤ xs.length ∧ i = .int .i64 k ∧ ∀ j (hj : j < xs.length), j < k → xs[j] < n) (fun i => xs.length - (intOf i).toNat)
  case atStart => exact ⟨0, Nat.zero_le _, rfl, fun j hj h => by omega⟩
  case round =>
    obtain ⟨k, hk, rfl, hlow⟩ := hrel
    have Hlow := Lib.hid hlow
    clear hlow
    by_cases hlt : k < xs.length
    · obtain ⟨b, o, rfl, hcell⟩ := hat.num hlt
      by_cases h1 : xs[k] < n
      · go_wp2
        go_round
        case rel =>
          refine ⟨k + 1, by omega, by go_num, fun j hj h => ?_⟩
          by_cases e : j = k
          · subst e; exact h1
          · exact Hlow.out j hj (by omega)
        case measure => simp [intOf]; omega
      · by_cases h2 : xs[k] = n
        · have h2' : (xs[k] == n) = true := by simpa using h2
          have H := Lib.hid (intoL_eq hlt Hlow.out h1 h2)
          clear h2
          go_wp2
          go_ret
          exact ⟨_, rfl, by rw [H.out]; exact hx0.out, Below.refl _ _⟩
        · have h2' : (xs[k] == n) = false := by simpa using h2
          have H := Lib.hid (intoL_new hk Hlow.out (fun _ => h1) (fun _ => h2))
          clear h2
          have hsl : Sl w 2 (.slice (some ⟨b, o, none⟩) k c) k ((xs.take k).map (Value.int .i64)) :=
            ⟨_, _, rfl, (fun e => by cases e), by omega, by omega, by rw [List.map_take]; exact hat.take k⟩
          have hkc : k < c := by omega
          have hd : Sl w 2 (.slice (some ⟨b, o + k, none⟩) (xs.length - k) (c - k)) (xs.length - k) ((xs.drop k).map (Value.int .i64)) :=
            ⟨_, _, rfl, (fun e => by cases e), by omega, by omega, by rw [List.map_drop]; exact hat.drop k⟩
          go_wp2_with (first
            | (go_at_call 127; refine (l1Copy_any _ k _ (oneCell_ints _ _) (by simp; omega) _ hsl).mono ?_; rintro e w1 ⟨u1, rfl, hown1, hb1⟩)
            | (at_builtin; refine wpList_app1 ty_i64 rfl rfl rfl hown1 rfl rfl (by omega) hb1.size ?_; intro v2 w2 hown2 hg2 _; have hb2 := below_grown hb1 hown1 hg2 (Nat.le_refl _) hb1.size; have hd2 : Sl w2 2 (.slice (some ⟨b, o + k, none⟩) (xs.length - k) (c - k)) (xs.length - k) ((xs.drop k).map (Value.int .i64)) := hd.below hb2)
            | (at_builtin; refine wpList_app ty_i64 rfl rfl rfl hown2 rfl hd2 (by simp) (oneCell_ints _ _) (by omega) hb2.size ?_; intro v3 w3 hown3 hg3 _))
          go_ret
          refine ⟨_, rfl, ?_, below_grown hb2 hown2 hg3 (Nat.le_refl _) hb2.size⟩
          have e : (xs.take k).map (Value.int .i64) ++ [Value.int .i64 n] ++ (xs.drop k).map (Value.int .i64) = (intoL xs n).map (Value.int .i64) := by rw [H.out]; simp
          rw [e] at hown3
          have hlen : k + 1 + (xs.length - k) = (intoL xs n).length := by rw [H.out]; simp; omega
          exact Nums.of_owns hown3 hlen (by omega)
    · obtain rfl : k = xs.length := by omega
      have H := Lib.hid (intoL_new hk Hlow.out (fun h => absurd h hlt) (fun h => absurd h hlt))
      have hsl : Sl w 2 (.slice p xs.length c) xs.length (xs.map (Value.int .i64)) := hx0.out
      have hfin : ∀ (w2 : World) (u : Value), w2.ownsRow w.heap.size 2 1 u (xs.length + 1 + 0) (xs.map (Value.int .i64) ++ [Value.int .i64 n] ++ []) → Nums w2 2 .i64 u (intoL xs n) := by
        intro w2 u ho
        have e : xs.map (Value.int .i64) ++ [Value.int .i64 n] ++ [] = (intoL xs n).map (Value.int .i64) := by rw [H.out]; simp
        rw [e] at ho
        exact Nums.of_owns ho (by rw [H.out]; simp) (by omega)
      rcases p with _ | a
      · obtain ⟨h0, rfl⟩ := hp rfl
        have h0' : xs = [] := List.eq_nil_of_length_eq_zero h0
        subst h0'
        go_wp2_with (first
          | (go_at_call 127; refine (l1Copy_any _ 0 _ (oneCell_ints _ _) rfl _ hsl).mono ?_; rintro e w1 ⟨u1, rfl, hown1, hb1⟩)
          | (at_builtin; refine wpList_app1 ty_i64 rfl rfl rfl hown1 rfl rfl (by omega) hb1.size ?_; intro v2 w2 hown2 hg2 _; have hb2 := below_grown hb1 hown1 hg2 (Nat.le_refl _) hb1.size)
          | (at_builtin; refine wpList_app ty_i64 rfl rfl rfl hown2 rfl (Sl.nothing _ _ _ _ (fun _ => rfl)) rfl (fun x hx => by cases hx) (by omega) hb2.size ?_; intro v3 w3 hown3 hg3 _))
        go_ret
        exact ⟨_, rfl, hfin _ _ hown3, below_grown hb2 hown2 hg3 (Nat.le_refl _) hb2.size⟩
      · by_cases hcl : c = xs.length
        · subst hcl
          go_wp2_with (first
            | (go_at_call 127; refine (l1Copy_any _ xs.length _ (oneCell_ints _ _) (by simp) _ hsl).mono ?_; rintro e w1 ⟨u1, rfl, hown1, hb1⟩)
            | (at_builtin; refine wpList_app1 ty_i64 rfl rfl rfl hown1 rfl rfl (by omega) hb1.size ?_; intro v2 w2 hown2 hg2 _; have hb2 := below_grown hb1 hown1 hg2 (Nat.le_refl _) hb1.size)
            | (at_builtin; refine wpList_app ty_i64 rfl rfl rfl hown2 rfl (Sl.nothing _ _ _ _ (fun e => by cases e)) rfl (fun x hx => by cases hx) (by omega) hb2.size ?_; intro v3 w3 hown3 hg3 _))
          go_ret
          exact ⟨_, rfl, hfin _ _ hown3, below_grown hb2 hown2 hg3 (Nat.le_refl _) hb2.size⟩
        · have hcl' : xs.length < c := by omega
          go_wp2_with (first
            | (go_at_call 127; refine (l1Copy_any _ xs.length _ (oneCell_ints _ _) (by simp) _ hsl).mono ?_; rintro e w1 ⟨u1, rfl, hown1, hb1⟩)
            | (at_builtin; refine wpList_app1 ty_i64 rfl rfl rfl hown1 rfl rfl (by omega) hb1.size ?_; intro v2 w2 hown2 hg2 _; have hb2 := below_grown hb1 hown1 hg2 (Nat.le_refl _) hb1.size)
            | (at_builtin; refine wpList_app ty_i64 rfl rfl rfl hown2 rfl (Sl.nothing _ _ _ _ (fun e => by cases e)) rfl (fun x hx => by cases hx) (by omega) hb2.size ?_; intro v3 w3 hown3 hg3 _))
          go_ret
          exact ⟨_, rfl, hfin _ _ hown3, below_grown hb2 hown2 hg3 (Nat.le_refl _) hb2.size⟩

end Go.Proofs.YtfokiijcpkhllaaDoor

/- Plain facts, with no program in sight: folding, as the reference does it. -/
namespace Go.Proofs.YtfokiijcpkhllaaDoor

/-- A fold. -/
structure Fd where
  V : Int
  A : Int
  B : Int

/-- How vertex v may be folded, of a row of neighbours. -/
def atRow (v : Int) (r : List Int) : Fd := ⟨v, r.getD 0 (-1), r.getD 1 (-1)⟩

def fr1 (g : List (List Int)) (f : Fd) (u : Nat) : List Int := if (u : Int) = f.V then [] else lessL (row g u) f.V
def fr2 (g : List (List Int)) (f : Fd) (u : Nat) : List Int := if (u : Int) = f.A ∧ 0 ≤ f.B then intoL (fr1 g f u) f.B else fr1 g f u
/-- Row u behind a fold. -/
def foldRow (g : List (List Int)) (f : Fd) (u : Nat) : List Int := if (u : Int) = f.B then intoL (fr2 g f u) f.A else fr2 g f u
def foldG (g : List (List Int)) (f : Fd) : List (List Int) := (List.range g.length).map (foldRow g f)

theorem foldG_length (g : List (List Int)) (f : Fd) : (foldG g f).length = g.length := by simp [foldG]
theorem row_foldG (g : List (List Int)) (f : Fd) {u : Nat} (hu : u < g.length) : row (foldG g f) u = foldRow g f u := by simp [row, foldG, hu]

theorem fr1_length (g : List (List Int)) (f : Fd) (u : Nat) : (fr1 g f u).length ≤ (row g u).length := by
  unfold fr1; split
  · simp
  · exact lessL_length _ _
theorem fr2_length (g : List (List Int)) (f : Fd) (u : Nat) : (fr2 g f u).length ≤ (row g u).length + 1 := by
  have := fr1_length g f u
  unfold fr2; split
  · have := intoL_length (fr1 g f u) f.B; omega
  · omega
theorem foldRow_length (g : List (List Int)) (f : Fd) (u : Nat) : (foldRow g f u).length ≤ (row g u).length + 2 := by
  have := fr2_length g f u
  unfold foldRow; split
  · have := intoL_length (fr2 g f u) f.A; omega
  · omega

theorem fr1_yes {g : List (List Int)} {f : Fd} {u : Nat} (h : (u : Int) = f.V) : fr1 g f u = [] := if_pos h
theorem fr1_no {g : List (List Int)} {f : Fd} {u : Nat} (h : ¬ (u : Int) = f.V) : fr1 g f u = lessL (row g u) f.V := if_neg h
theorem fr2_yes {g : List (List Int)} {f : Fd} {u : Nat} (h : (u : Int) = f.A) (h2 : 0 ≤ f.B) : fr2 g f u = intoL (fr1 g f u) f.B := if_pos ⟨h, h2⟩
theorem fr2_no {g : List (List Int)} {f : Fd} {u : Nat} (h : ¬ ((u : Int) = f.A ∧ 0 ≤ f.B)) : fr2 g f u = fr1 g f u := if_neg h
theorem foldRow_yes {g : List (List Int)} {f : Fd} {u : Nat} (h : (u : Int) = f.B) : foldRow g f u = intoL (fr2 g f u) f.A := if_pos h
theorem foldRow_no {g : List (List Int)} {f : Fd} {u : Nat} (h : ¬ (u : Int) = f.B) : foldRow g f u = fr2 g f u := if_neg h

/-- The reference folds the least vertex of those that are left that may be folded, again and again. -/
inductive Folds : List (List Int) → List Int → List Fd → List Int → List (List Int) → Prop
  | stop {g : List (List Int)} {left : List Int} (h : ∀ v ∈ left, 2 < (row g v.toNat).length) : Folds g left [] left g
  | step {g : List (List Int)} {l1 l2 : List Int} {v : Int} {fs : List Fd} {l : List Int} {g' : List (List Int)} (h1 : ∀ x ∈ l1, 2 < (row g x.toNat).length) (h2 : (row g v.toNat).length ≤ 2)
      (h : Folds (foldG g (atRow v (row g v.toNat))) (lessL (l1 ++ v :: l2) v) fs l g') : Folds g (l1 ++ v :: l2) (atRow v (row g v.toNat) :: fs) l g'

theorem take_cons_drop {α : Type} (l : List α) (k : Nat) (h : k < l.length) : l = l.take k ++ l[k] :: l.drop (k + 1) := by
  rw [List.getElem_cons_drop, List.take_append_drop]

theorem lessL_length_lt {s : List Int} {v : Int} (h : v ∈ s) : (lessL s v).length < s.length := by
  induction s with
  | nil => cases h
  | cons x s ih =>
    by_cases e : x = v
    · have : lessL (x :: s) v = lessL s v := by simp [lessL, e]
      rw [this]
      have := lessL_length s v
      simp; omega
    · have h' : v ∈ s := by
        rcases List.mem_cons.1 h with h | h
        · exact absurd h.symm e
        · exact h
      have : lessL (x :: s) v = x :: lessL s v := by simp [lessL, e]
      rw [this]
      have := ih h'
      simp; omega

/-- What the loop of the reference carries: behind the folds so far these vertices and this graph are left. -/
def FoldsOn (g0 : List (List Int)) (left0 : List Int) (os : List Fd) (lf : List Int) (gg : List (List Int)) : Prop :=
  ∀ fs l g', Folds gg lf fs l g' → Folds g0 left0 (os ++ fs) l g'

theorem foldsOn_start (g : List (List Int)) (left : List Int) : FoldsOn g left [] left g := fun _ _ _ h => h
theorem foldsOn_step {g0 gg : List (List Int)} {left0 lf : List Int} {os : List Fd} {k : Nat} (h : FoldsOn g0 left0 os lf gg) (hk : k < lf.length) (h1 : ∀ j (hj : j < lf.length), j < k → 2 < (row gg (lf[j]).toNat).length)
    (h2 : (row gg (lf[k]).toNat).length ≤ 2) : FoldsOn g0 left0 (os ++ [atRow lf[k] (row gg (lf[k]).toNat)]) (lessL lf lf[k]) (foldG gg (atRow lf[k] (row gg (lf[k]).toNat))) := by
  intro fs l g' hf
  rw [List.append_assoc, List.singleton_append]
  refine h _ _ _ ?_
  have e := take_cons_drop lf k hk
  have hs : Folds gg (lf.take k ++ lf[k] :: lf.drop (k + 1)) (atRow lf[k] (row gg (lf[k]).toNat) :: fs) l g' := by
    refine Folds.step (fun x hx => ?_) h2 (by rw [← e]; exact hf)
    obtain ⟨j, hj, rfl⟩ := List.mem_iff_getElem.1 hx
    rw [List.length_take] at hj
    rw [List.getElem_take]
    exact h1 j (by omega) (by omega)
  rwa [← e] at hs
theorem foldsOn_stop {g0 gg : List (List Int)} {left0 lf : List Int} {os : List Fd} (h : FoldsOn g0 left0 os lf gg) (h1 : ∀ j (hj : j < lf.length), 2 < (row gg (lf[j]).toNat).length) : Folds g0 left0 os lf gg := by
  have := h [] lf gg (Folds.stop fun v hv => by
    obtain ⟨j, hj, rfl⟩ := List.mem_iff_getElem.1 hv
    exact h1 j hj)
  rwa [List.append_nil] at this

theorem first_unique {α : Type} (p : α → Prop) : ∀ {l1 l2 m1 m2 : List α} {v x : α}, l1 ++ v :: l2 = m1 ++ x :: m2 → (∀ y ∈ l1, ¬ p y) → p v → (∀ y ∈ m1, ¬ p y) → p x → l1 = m1 ∧ v = x ∧ l2 = m2
  | [], l2, [], m2, v, x, h, _, _, _, _ => by simp at h; exact ⟨rfl, h.1, h.2⟩
  | [], l2, y :: m1, m2, v, x, h, _, hv, hm, _ => by simp at h; exact absurd (h.1 ▸ hv) (hm y (by simp))
  | y :: l1, l2, [], m2, v, x, h, hl, _, _, hx => by simp at h; exact absurd (h.1 ▸ hx) (hl y (by simp))
  | y :: l1, l2, z :: m1, m2, v, x, h, hl, hv, hm, hx => by
    simp at h
    obtain ⟨rfl, h⟩ := h
    obtain ⟨rfl, rfl, rfl⟩ := first_unique p h (fun y hy => hl y (by simp [hy])) hv (fun y hy => hm y (by simp [hy])) hx
    exact ⟨rfl, rfl, rfl⟩

theorem folds_det {g : List (List Int)} {left : List Int} {fs : List Fd} {l : List Int} {g' : List (List Int)} (h : Folds g left fs l g') : ∀ {fs2 : List Fd} {l2 : List Int} {g2 : List (List Int)}, Folds g left fs2 l2 g2 → fs = fs2 ∧ l = l2 ∧ g' = g2 := by
  induction h with
  | stop h =>
    intro fs2 l2 g2 k
    cases k with
    | stop => exact ⟨rfl, rfl, rfl⟩
    | step h1 h2 _ =>
      have := h _ (List.mem_append_right _ (List.mem_cons_self ..))
      omega
  | @step g l1 l2 v fs l g' h1 h2 _ ih =>
    intro fs2 l3 g2 k
    generalize hL : l1 ++ v :: l2 = L at k
    cases k with
    | stop h =>
      have := h v (by rw [← hL]; simp)
      omega
    | @step _ m1 m2 x fs3 _ _ k1 k2 k3 =>
      obtain ⟨rfl, rfl, rfl⟩ := first_unique (fun (y : Int) => (row g y.toNat).length ≤ 2) hL (fun y hy => by have := h1 y hy; omega) h2 (fun y hy => by have := k1 y hy; omega) k2
      obtain ⟨rfl, rfl, rfl⟩ := ih k3
      exact ⟨rfl, rfl, rfl⟩

/-- What the reference's FoldedOf returns. -/
def FoldedS (g : List (List Int)) (fs : List Fd) (l : List Int) : Prop := (GOk g ∧ ∃ g', Folds g (allL g.length) fs l g') ∨ (¬ GOk g ∧ fs = [] ∧ l = [])
/-- All vertices are folded away. -/
def SerS (g : List (List Int)) : Prop := GOk g ∧ ∃ fs g', Folds g (allL g.length) fs [] g'

theorem serS_iff {g : List (List Int)} {fs : List Fd} {l : List Int} {g' : List (List Int)} (hg : GOk g) (h : Folds g (allL g.length) fs l g') : SerS g ↔ l.length = 0 := by
  constructor
  · rintro ⟨_, fs2, g2, h2⟩
    obtain ⟨_, rfl, _⟩ := folds_det h h2
    rfl
  · intro hl
    obtain rfl := List.eq_nil_of_length_eq_zero hl
    exact ⟨hg, fs, g', h⟩

theorem gOk_row_le {g : List (List Int)} (h : GOk g) (j : Nat) (hj : j < g.length) : (row g j).length ≤ 16 := by
  have h1 := setIn_length (by omega) (h.sets j hj).1
  have := h.le
  omega

end Go.Proofs.YtfokiijcpkhllaaDoor
