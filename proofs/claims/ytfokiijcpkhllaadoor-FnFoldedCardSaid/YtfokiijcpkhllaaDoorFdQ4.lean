/- Walks: the reference's GraphOk and the program's. -/
import Derived.Test.YtfokiijcpkhllaaDoorFdQ3
namespace Go.Proofs.YtfokiijcpkhllaaDoor
open Go.RowKit

/-- A graph value: a struct of one slice of rows. -/
def Gr (w : World) (v : Value) (g : List (List Int)) : Prop := ∃ u, v = .agg #[u] ∧ Rws w 32 2 u g

theorem Gr.below {w w' : World} {v : Value} {g : List (List Int)} (h : Gr w v g) (hb : Below w.heap.size w w') : Gr w' v g := by
  obtain ⟨u, rfl, hr⟩ := h
  exact ⟨u, rfl, hr.below hb⟩

set_option maxHeartbeats 400000 in
theorem l1Size_any (v : Value) (g : List (List Int)) (w : World) (hg : Gr w v g) :
    Calls Tryd.prog 60 #[v] w fun e w' => e = .returned (.int .i64 g.length) ∧ Below w.heap.size w w' := by
  obtain ⟨u, rfl, hr⟩ := hg
  obtain ⟨p, c, rfl, _, _, hn⟩ := hr.shape
  have hb := below_alloc w (.cells #[.slice p g.length c] 29)
  go_enter Tryd.func60, Tryd.ntmps60
  go_wp2
  go_ret
  exact ⟨rfl, hb⟩

/-- Row j of a graph of n rows is right by itself. -/
def RowOk (g : List (List Int)) (j : Nat) : Prop := SetIn g.length (row g j) ∧ (j : Int) ∉ row g j
/-- The first i neighbours of k have k as a neighbour. -/
def BackTo (g : List (List Int)) (k i : Nat) : Prop := ∀ u ∈ (row g k).take i, (k : Int) ∈ row g u.toNat

theorem gOk_of {g : List (List Int)} (h1 : 1 ≤ g.length ∧ g.length ≤ 16) (h2 : ∀ j, j < g.length → RowOk g j) (h3 : ∀ k, k < g.length → BackTo g k (row g k).length) : GOk g :=
  ⟨h1.1, h1.2, h2, fun v hv u hu => h3 v hv u (by rwa [List.take_length])⟩
theorem rowOk_of {g : List (List Int)} (h : GOk g) {j : Nat} (hj : j < g.length) : RowOk g j := h.sets j hj
theorem backTo_of {g : List (List Int)} (h : GOk g) {k : Nat} (hk : k < g.length) (i : Nat) : BackTo g k i := fun u hu => h.both k hk u (List.mem_of_mem_take hu)
theorem backTo_step {g : List (List Int)} {k i : Nat} (hi : i < (row g k).length) (h : BackTo g k i) (h2 : (k : Int) ∈ row g ((row g k)[i]).toNat) : BackTo g k (i + 1) := by
  intro u hu
  rw [take_snoc' _ i hi] at hu
  rcases List.mem_append.1 hu with hu | hu
  · exact h u hu
  · simp at hu; subst hu; exact h2
theorem row_bound {g : List (List Int)} {k i : Nat} (h : RowOk g k) (hi : i < (row g k).length) : ∃ m : Nat, (row g k)[i] = (m : Int) ∧ m < g.length := by
  have := h.1.1 _ (List.getElem_mem hi)
  exact ⟨((row g k)[i]).toNat, by omega, by omega⟩

set_option maxRecDepth 100000 in
set_option maxHeartbeats 2000000 in
theorem specGraphOk_any (v : Value) (g : List (List Int)) (w : World) (hg : Gr w v g) :
    Calls Tryd.prog 50 #[v] w fun e w' => e = .returned (.bool (dec (GOk g))) ∧ Below w.heap.size w w' := by
  obtain ⟨u, rfl, hr⟩ := hg
  obtain ⟨p, c, rfl, _, _, hn⟩ := hr.shape
  obtain ⟨W1, hW1⟩ : ∃ W1, W1 = w.alloc (.cells #[.slice p g.length c] 29) := ⟨_, rfl⟩
  have hs1 : W1.heap.size = w.heap.size + 1 := by rw [hW1]; exact size_alloc _ _
  have hb1 : Below w.heap.size w W1 := by rw [hW1]; exact below_alloc _ _
  have hbox : W1.cell? ⟨w.heap.size, 0, none⟩ = some (.slice p g.length c) := by rw [hW1]; exact cell_new _ _ _
  have hr1 := hr.below hb1
  have HW1 := Lib.hid hW1
  have hs1' : w.heap.size < W1.heap.size := by omega
  clear hW1 hs1 hr
  by_cases hlen : 1 ≤ g.length ∧ g.length ≤ 16
  case neg =>
    have hd := dec_false (p := (1 : Int) ≤ (g.length : Int) ∧ (g.length : Int) ≤ 16) (by omega)
    have Hlen := Lib.hid hlen
    clear hlen
    go_enter Tryd.func50, Tryd.ntmps50
    go_wp2_with (first
      | (go_at_call 60; refine (l1Size_any _ g _ ⟨_, rfl, HW1.out ▸ hr1⟩).mono ?_; rintro e w2 ⟨rfl, hb2⟩)
      | (go_at_call 101; refine (l1In_any _ _ _ _).mono ?_; rintro e w3 ⟨rfl, rfl⟩))
    go_ret
    refine ⟨ret_bool (false_dec fun h => Hlen.out ⟨h.pos, h.le⟩), ?_⟩
    rw [← HW1.out] at hb2
    exact below_le hb1 hb2 (by omega)
  have hd := dec_true (p := (1 : Int) ≤ (g.length : Int) ∧ (g.length : Int) ≤ 16) (by omega)
  obtain ⟨hl1, hl2⟩ := hlen
  go_enter Tryd.func50, Tryd.ntmps50
  go_wp2_with (first
    | (go_at_call 60; refine (l1Size_any _ g _ ⟨_, rfl, HW1.out ▸ hr1⟩).mono ?_; rintro e w2 ⟨rfl, hb2⟩)
    | (go_at_call 101; refine (l1In_any _ _ _ _).mono ?_; rintro e w3 ⟨rfl, rfl⟩))
  have hb2' : Below W1.heap.size W1 w2 := by rw [← HW1.out] at hb2; exact hb2
  clear hb2
  go_loopw [4] (fun i wr => ∃ k : Nat, k ≤ g.length ∧ i = .int .i64 k ∧ (∀ j, j < k → RowOk g j) ∧ Below W1.heap.size W1 wr) (fun i _ => g.length - (intOf i).toNat)
  case atStart => exact ⟨0, Nat.zero_le _, rfl, fun j hj => by omega, hb2'⟩
  case round =>
    clear hb2'
    obtain ⟨k, hk, rfl, hrows, hbel⟩ := hrel
    have Hrows := Lib.hid hrows
    clear hrows
    have hboxr := hbel.at (by omega) hbox
    have hszr := hbel.size
    by_cases hlt : k < g.length
    · have hrr := hr1.below hbel
      obtain ⟨b, o, rp, rc, rfl, hcell, hnums⟩ := hrr.get hlt
      change wr.cell? _ = some (.slice rp (row g k).length rc) at hcell
      change Nums wr _ _ (.slice rp (row g k).length rc) (row g k) at hnums
      clear hrr
      by_cases hs : SetIn (g.length : Int) (row g k)
      · have hs' := dec_true hs
        by_cases hh : (k : Int) ∈ row g k
        · have hh' := dec_true hh
          have Hh := Lib.hid hh
          have Hs := Lib.hid hs
          clear hh hs
          go_wp2_with (first
            | (go_at_call 103; refine (l1Set_any _ _ _ (by omega) (by omega) _ hnums).mono ?_; rintro e w3 ⟨rfl, hb3⟩; have hboxr3 := hb3.at' hboxr; have hcell3 := hb3.at' hcell; have hnums3 := hnums.below hb3)
            | (go_at_call 66; refine (l1Has_any _ _ _ _ hnums3).mono ?_; rintro e w4 ⟨rfl, rfl⟩))
          go_ret
          exact ⟨ret_bool (false_dec fun h => (h.sets k hlt).2 Hh.out), (hb1.trans (hbel.mono (by omega))).trans (hb3.mono (by omega))⟩
        · have hh' := dec_false hh
          have Hok := Lib.hid (show RowOk g k from ⟨hs, hh⟩)
          clear hh hs
          go_wp2_with (first
            | (go_at_call 103; refine (l1Set_any _ _ _ (by omega) (by omega) _ hnums).mono ?_; rintro e w3 ⟨rfl, hb3⟩; have hboxr3 := hb3.at' hboxr; have hcell3 := hb3.at' hcell; have hnums3 := hnums.below hb3)
            | (go_at_call 66; refine (l1Has_any _ _ _ _ hnums3).mono ?_; rintro e w4 ⟨rfl, rfl⟩))
          go_roundw
          case rel =>
            refine ⟨k + 1, by omega, by go_num, fun j hj => ?_, hbel.trans (hb3.mono (by omega))⟩
            by_cases e : j = k
            · subst e; exact Hok.out
            · exact Hrows.out j (by omega)
          case measure => simp [intOf]; omega
      · have hs' := dec_false hs
        have Hs := Lib.hid hs
        clear hs
        go_wp2_with (go_at_call 103; refine (l1Set_any _ _ _ (by omega) (by omega) _ hnums).mono ?_; rintro e w3 ⟨rfl, hb3⟩)
        go_ret
        exact ⟨ret_bool (false_dec fun h => Hs.out (h.sets k hlt).1), (hb1.trans (hbel.mono (by omega))).trans (hb3.mono (by omega))⟩
    · obtain rfl : k = g.length := by omega
      go_wp2
      obtain ⟨wo, rfl⟩ : ∃ wo : World, wo = wr := ⟨_, rfl⟩
      go_loopw [5, 6] (fun i _ wr => ∃ k : Nat, k ≤ g.length ∧ i = .int .i64 k ∧ (∀ j, j < k → BackTo g j (row g j).length) ∧ Below W1.heap.size W1 wr) (fun i _ _ => g.length - (intOf i).toNat)
      case atStart => exact ⟨0, Nat.zero_le _, rfl, fun j hj => by omega, hbel⟩
      case round =>
        clear hboxr hszr hbel
        obtain ⟨k, hk, rfl, hback, hbel⟩ := hrel
        have Hback := Lib.hid hback
        clear hback
        have hszr := hbel.size
        by_cases hlt : k < g.length
        · go_wp2
          obtain ⟨wi, rfl⟩ : ∃ wi : World, wi = wr := ⟨_, rfl⟩
          go_loopw [6] (fun i wr => ∃ j : Nat, j ≤ (row g k).length ∧ i = .int .i64 j ∧ BackTo g k j ∧ Below W1.heap.size W1 wr) (fun i _ => (row g k).length - (intOf i).toNat)
          case atStart => exact ⟨0, Nat.zero_le _, rfl, fun u hu => by simp at hu, hbel⟩
          case round =>
            clear hbel hszr
            obtain ⟨i, hi, rfl, hbk, hbel⟩ := hrel
            have Hbk := Lib.hid hbk
            clear hbk
            have hboxr := hbel.at (by omega) hbox
            have hszr := hbel.size
            have hrr := hr1.below hbel
            obtain ⟨b, o, rp, rc, rfl, hcell, hnums⟩ := hrr.get hlt
            change wr.cell? _ = some (.slice rp (row g k).length rc) at hcell
            change Nums wr _ _ (.slice rp (row g k).length rc) (row g k) at hnums
            by_cases hlti : i < (row g k).length
            · obtain ⟨m, hm, hmn⟩ := row_bound (Hrows.out k hlt) hlti
              obtain ⟨_, _, hv, _, _, _, hat⟩ := hnums
              simp only [Value.slice.injEq, true_and] at hv
              obtain ⟨rfl, rfl⟩ := hv
              obtain ⟨b2, o2, rfl, hcell2⟩ := hat.num hlti
              rw [hm] at hcell2
              obtain ⟨b', o', rp', rc', he, hcell3, hnums3⟩ := hrr.get hmn
              simp only [Option.some.injEq, Addr.mk.injEq, and_true] at he
              obtain ⟨rfl, rfl⟩ := he
              change wr.cell? _ = some (.slice rp' (row g m).length rc') at hcell3
              change Nums wr _ _ (.slice rp' (row g m).length rc') (row g m) at hnums3
              clear hat hrr
              have Hm := Lib.hid hm
              clear hm
              by_cases hh : (k : Int) ∈ row g m
              · have hh' := dec_true hh
                have Hh := Lib.hid hh
                clear hh
                go_wp2
                go_quiet ((go_at_call 66; exact Calls.quiet_of_same (flip (l1Has_any _ _ _ _ (hnums3.below (below_dN (Below.refl _ _) _))))))
                go_wp2
                go_roundw
                case rel =>
                  refine ⟨i + 1, by omega, by go_num, backTo_step hlti Hbk.out ?_, below_dN hbel _⟩
                  rw [Hm.out, Int.toNat_natCast]; exact Hh.out
                case measure => simp [intOf]; omega
              · have hh' := dec_false hh
                have Hh := Lib.hid hh
                clear hh
                go_wp2
                go_quiet ((go_at_call 66; exact Calls.quiet_of_same (flip (l1Has_any _ _ _ _ (hnums3.below (below_dN (Below.refl _ _) _))))))
                go_wp2
                go_ret
                refine ⟨ret_bool (false_dec fun h => Hh.out ?_), hb1.trans ((below_dN hbel _).mono (by omega))⟩
                have := h.both k hlt _ (List.getElem_mem hlti)
                rwa [Hm.out, Int.toNat_natCast] at this
            · obtain rfl : i = (row g k).length := by omega
              go_wp2
              go_roundw
              case rel =>
                refine ⟨k + 1, by omega, by go_num, fun j hj => ?_, hbel⟩
                by_cases e : j = k
                · subst e; exact Hbk.out
                · exact Hback.out j (by omega)
              case measure => simp [intOf]; omega
        · obtain rfl : k = g.length := by omega
          go_wp2
          go_ret
          exact ⟨ret_bool (true_dec (gOk_of ⟨hl1, hl2⟩ Hrows.out Hback.out)), hb1.trans (hbel.mono (by omega))⟩

end Go.Proofs.YtfokiijcpkhllaaDoor

/- Plain facts, with no program in sight: the reference's list operations. -/
namespace Go.Proofs.YtfokiijcpkhllaaDoor

/-- A list without a number. -/
def lessL (s : List Int) (v : Int) : List Int := s.filter (fun x => x != v)
/-- A rising list with one more. -/
def intoL : List Int → Int → List Int
  | [], n => [n]
  | x :: xs, n => if x < n then x :: intoL xs n else if x = n then x :: xs else n :: x :: xs
/-- 0, 1, .., n - 1. -/
def allL (n : Nat) : List Int := (List.range n).map (fun (i : Nat) => (i : Int))

theorem allL_length (n : Nat) : (allL n).length = n := by simp [allL]
theorem allL_succ (n : Nat) : allL (n + 1) = allL n ++ [(n : Int)] := by simp [allL, List.range_succ]
theorem mem_allL {n : Nat} {x : Int} : x ∈ allL n ↔ 0 ≤ x ∧ x < n := by
  simp only [allL, List.mem_map, List.mem_range]
  constructor
  · rintro ⟨i, hi, rfl⟩; omega
  · rintro ⟨h1, h2⟩; exact ⟨x.toNat, by omega, by omega⟩
theorem allL_rising (n : Nat) : (allL n).Pairwise (· < ·) := by
  unfold allL
  rw [List.pairwise_map]
  exact List.Pairwise.imp (fun h => by omega) List.pairwise_lt_range

theorem mem_lessL {s : List Int} {v x : Int} : x ∈ lessL s v ↔ x ∈ s ∧ x ≠ v := by simp [lessL]
theorem lessL_length (s : List Int) (v : Int) : (lessL s v).length ≤ s.length := List.length_filter_le _ _
theorem lessL_snoc (s : List Int) (v x : Int) : lessL (s ++ [x]) v = if x = v then lessL s v else lessL s v ++ [x] := by
  by_cases h : x = v
  · simp [lessL, h, List.filter_append]
  · simp [lessL, h, List.filter_append]
theorem lessL_rising {s : List Int} (h : s.Pairwise (· < ·)) (v : Int) : (lessL s v).Pairwise (· < ·) := h.filter _

theorem intoL_cut : ∀ (l : List Int) (n : Int) (k : Nat), k ≤ l.length → (∀ j (hj : j < l.length), j < k → l[j] < n) → (∀ h : k < l.length, ¬ l[k] < n) →
    intoL l n = if ∃ h : k < l.length, l[k] = n then l else l.take k ++ n :: l.drop k
  | [], n, k, hk, _, _ => by
    obtain rfl : k = 0 := by simpa using hk
    simp [intoL]
  | x :: xs, n, 0, hk, _, h2 => by
    have h3 : ¬ x < n := h2 (by simp)
    unfold intoL
    rw [if_neg h3]
    by_cases e : x = n
    · simp [e]
    · simp [e]
  | x :: xs, n, k + 1, hk, h1, h2 => by
    have h3 : x < n := h1 0 (by simp) (by omega)
    unfold intoL
    rw [if_pos h3, intoL_cut xs n k (by simpa using hk) (fun j hj hjk => h1 (j + 1) (by simpa using hj) (by omega)) (fun h => h2 (by simpa using h))]
    by_cases e : ∃ h : k < xs.length, xs[k] = n
    · rw [if_pos e, if_pos (by obtain ⟨a, b⟩ := e; exact ⟨by simpa using a, by simpa using b⟩)]
    · rw [if_neg e, if_neg (by rintro ⟨a, b⟩; exact e ⟨by simpa using a, by simpa using b⟩)]
      simp

theorem intoL_eq {l : List Int} {n : Int} {k : Nat} (hk : k < l.length) (h1 : ∀ j (hj : j < l.length), j < k → l[j] < n) (h2 : ¬ l[k] < n) (h3 : l[k] = n) : intoL l n = l := by
  rw [intoL_cut l n k (by omega) h1 (fun _ => h2), if_pos ⟨hk, h3⟩]
theorem intoL_new {l : List Int} {n : Int} {k : Nat} (hk : k ≤ l.length) (h1 : ∀ j (hj : j < l.length), j < k → l[j] < n) (h2 : ∀ h : k < l.length, ¬ l[k] < n) (h3 : ∀ h : k < l.length, l[k] ≠ n) : intoL l n = l.take k ++ n :: l.drop k := by
  rw [intoL_cut l n k hk h1 h2, if_neg (by rintro ⟨a, b⟩; exact h3 a b)]

theorem mem_intoL {n x : Int} : ∀ {l : List Int}, x ∈ intoL l n ↔ x ∈ l ∨ x = n
  | [] => by simp [intoL]
  | y :: l => by
    unfold intoL
    split
    · simp only [List.mem_cons, mem_intoL (l := l)]; exact ⟨fun h => by rcases h with h | h | h <;> simp [h], fun h => by rcases h with (h | h) | h <;> simp [h]⟩
    · split
      · rename_i h; subst h; simp only [List.mem_cons]; exact ⟨fun h => .inl h, fun h => by rcases h with h | h; exact h; exact .inl h⟩
      · simp only [List.mem_cons]; exact ⟨fun h => by rcases h with h | h | h <;> simp [h], fun h => by rcases h with (h | h) | h <;> simp [h]⟩

theorem intoL_rising {n : Int} : ∀ {l : List Int}, l.Pairwise (· < ·) → (intoL l n).Pairwise (· < ·)
  | [], _ => by simp [intoL]
  | y :: l, h => by
    rw [List.pairwise_cons] at h
    unfold intoL
    split
    · rename_i hy
      rw [List.pairwise_cons]
      refine ⟨fun z hz => ?_, intoL_rising h.2⟩
      rcases mem_intoL.1 hz with hz | rfl
      · exact h.1 z hz
      · exact hy
    · split
      · rw [List.pairwise_cons]; exact h
      · rw [List.pairwise_cons, List.pairwise_cons]
        refine ⟨fun z hz => ?_, h⟩
        rcases List.mem_cons.1 hz with rfl | hz
        · omega
        · have := h.1 z hz; omega

theorem intoL_length (l : List Int) (n : Int) : (intoL l n).length ≤ l.length + 1 := by
  induction l with
  | nil => simp [intoL]
  | cons x l ih =>
    unfold intoL
    split
    · simp; omega
    · split <;> simp

end Go.Proofs.YtfokiijcpkhllaaDoor

/- Walks: the reference's list operations that make memory. -/
namespace Go.Proofs.YtfokiijcpkhllaaDoor
open Go.RowKit

set_option maxRecDepth 100000 in
set_option maxHeartbeats 1000000 in
theorem l1Copy_any (v : Value) (n : Nat) (vals : List Value) (h1 : ∀ x ∈ vals, x.oneCell' = true) (hl : vals.length = n) (w : World) (hx : Sl w 2 v n vals) :
    Calls Tryd.prog 127 #[v] w fun e w' => ∃ u, e = .returned u ∧ w'.ownsRow w.heap.size 2 1 u n vals ∧ Below w.heap.size w w' := by
  have hn := hx
  obtain ⟨p, c, rfl, _, _, hn, _⟩ := hn
  have hx' := hx.below (below_alloc w (.cells #[] 2))
  have ho := ownsRow_empty w 2 1
  have hb := below_alloc w (.cells #[] 2)
  have hsz : w.heap.size ≤ (w.alloc (.cells #[] 2)).heap.size := hb.size
  have Hl := Lib.hid hl
  clear hl
  go_enter Tryd.func127, Tryd.ntmps127
  go_wp2_with (at_builtin; refine wpList_app ty_i64 rfl rfl rfl ho rfl hx' (by have := Hl.out; omega) h1 (by omega) hsz ?_; intro v' w1 hown' hg _)
  go_ret
  refine ⟨_, rfl, by simpa using hown', below_grown hb ho hg (Nat.le_refl _) hsz⟩

theorem oneCell_ints (K : IntKind) (xs : List Int) : ∀ x ∈ xs.map (Value.int K), x.oneCell' = true := by
  intro x hx
  obtain ⟨y, _, rfl⟩ := List.mem_map.1 hx
  rfl

set_option maxRecDepth 100000 in
set_option maxHeartbeats 1000000 in
theorem l19Less_any (v : Value) (xs : List Int) (n : Int) (w : World) (hx : Nums w 2 .i64 v xs) :
    Calls Tryd.prog 69 #[v, .int .i64 n] w fun e w' => ∃ u, e = .returned u ∧
      w'.ownsRow w.heap.size 2 1 u (lessL xs n).length ((lessL xs n).map (Value.int .i64)) ∧ Below w.heap.size w w' := by
  obtain ⟨p, c, rfl, _, _, hn, hat⟩ := hx
  go_enter Tryd.func69, Tryd.ntmps69
  go_wp2
  go_loopw [5, 6] (fun u i wr => ∃ k : Nat, k ≤ xs.length ∧ i = .int .i64 k ∧ wr.ownsRow w.heap.size 2 1 u (lessL (xs.take k) n).length ((lessL (xs.take k) n).map (Value.int .i64)) ∧ Below w.heap.size w wr)
    (fun _ i _ => xs.length - (intOf i).toNat)
  case atStart => exact ⟨0, Nat.zero_le _, rfl, ownsRow_empty _ _ _, below_alloc _ _⟩
  case round =>
    obtain ⟨k, hk, rfl, hown, hbel⟩ := hrel
    by_cases hlt : k < xs.length
    · obtain ⟨b, o, rfl, hc⟩ := hat.num hlt
      have hcell := hbel.at' hc
      have ht := Lib.hid (take_snoc xs k hlt)
      have hsz := hbel.size
      have hle : (lessL (xs.take k) n).length < 1000000000 := by have := lessL_length (xs.take k) n; rw [List.length_take] at this; omega
      clear hc hat
      by_cases he : xs[k] = n
      · have he' : (xs[k] != n) = false := by simpa using he
        have He := Lib.hid he
        clear he
        go_wp2
        go_roundw
        case rel => exact ⟨k + 1, by omega, by go_num, by rw [ht.out, lessL_snoc, if_pos He.out]; exact hown, hbel⟩
        case measure => simp [intOf]; omega
      · have he' : (xs[k] != n) = true := by simpa using he
        have He := Lib.hid he
        clear he
        go_wp2_with (at_builtin; refine wpList_app1 ty_i64 rfl rfl rfl hown rfl rfl hle hsz ?_; intro v' w1 hown' hg _)
        go_roundw
        case rel =>
          refine ⟨k + 1, by omega, by go_num, ?_, below_grown hbel hown hg (Nat.le_refl _) hsz⟩
          rw [ht.out, lessL_snoc, if_neg He.out, List.map_append, List.length_append]; exact hown'
        case measure => simp [intOf]; omega
    · obtain rfl : k = xs.length := by omega
      go_wp2
      go_ret
      rw [List.take_length] at hown
      exact ⟨_, rfl, hown, hbel⟩

set_option maxRecDepth 100000 in
set_option maxHeartbeats 1000000 in
theorem l16All_any (v : Value) (g : List (List Int)) (hl : g.length ≤ 1000) (w : World) (hg : Gr w v g) :
    Calls Tryd.prog 55 #[v] w fun e w' => ∃ u, e = .returned u ∧
      w'.ownsRow w.heap.size 2 1 u g.length ((allL g.length).map (Value.int .i64)) ∧ Below w.heap.size w w' := by
  obtain ⟨u, rfl, hr⟩ := hg
  obtain ⟨p, c, rfl, _, _, hn⟩ := hr.shape
  have hbox := Box.new w (.slice p g.length c) 29
  have hb1 := below_alloc w (.cells #[.slice p g.length c] 29)
  go_enter Tryd.func55, Tryd.ntmps55
  go_wp2
  go_loopw [3, 4] (fun u i wr => ∃ k : Nat, k ≤ g.length ∧ i = .int .i64 k ∧ wr.ownsRow (w.heap.size + 1) 2 1 u k ((allL k).map (Value.int .i64)) ∧ Below w.heap.size w wr ∧ Box wr w.heap.size 29 (.slice p g.length c))
    (fun _ i _ => g.length - (intOf i).toNat)
  case atStart => exact ⟨0, Nat.zero_le _, rfl, ownsRow_empty' _ _ _ _ _ (Nat.le_refl _), hb1.alloc (by rw [size_alloc]; omega) _, hbox.alloc _⟩
  case round =>
    clear hbox hb1
    obtain ⟨k, hk, rfl, hown, hbel, hbx⟩ := hrel
    obtain ⟨hc, hf, hlt0, _⟩ := id hbx
    have hsz := hbel.size
    by_cases hlt : k < g.length
    · go_wp2_with (at_builtin; refine wpList_app1 ty_i64 rfl rfl rfl hown rfl rfl (by omega) (by omega) ?_; intro v' w1 hown' hg _)
      go_roundw
      case rel =>
        refine ⟨k + 1, by omega, by go_num, ?_, below_grown hbel hown hg (by omega) hsz, ?_⟩
        · rw [allL_succ, List.map_append]; exact hown'
        · exact hbx.below (below_grown (Below.refl (w.heap.size + 1) wr) hown hg (Nat.le_refl _) (by omega)) (by omega)
      case measure => simp [intOf]; omega
    · obtain rfl : k = g.length := by omega
      go_wp2
      go_ret
      exact ⟨_, rfl, ownsRow_base hown (by omega), hbel⟩

end Go.Proofs.YtfokiijcpkhllaaDoor
