/- Walk: the laws' dice thrown (roll). -/
import Derived.Test.YtmakhapdlkbbnaaDoorQmQ41
import Derived.Deep.RegionWith
import Derived.Test.YtmakhapdlkbbnaaDoorQmQ10
import Derived.Test.YtmakhapdlkbbnaaDoorQmQ7
import Derived.Test.YtmakhapdlkbbnaaDoorQmQ11
import Derived.Test.YtmakhapdlkbbnaaDoorQmQ4
import Derived.Test.YtmakhapdlkbbnaaDoorQmQ25
namespace Go.Proofs.YtmakhapdlkbbnaaDoor
open Go.RowKit

set_option maxRecDepth 100000 in
set_option maxHeartbeats 4000000 in
theorem roll_any (v : Value) (bs : List Int) (s : Int) (hl : bs.length ≤ 4096) (w : World) (ha : ArgB w v bs) :
    Calls Tryd.prog 12 #[v, .int .u64 s] w fun e w' => ∃ db : Nat, e = .returned (.pointer (some ⟨db, 0, none⟩)) ∧ Dice w w' db bs ∧ Below w.heap.size w w' := by
  obtain ⟨p, c, e, _⟩ := id ha
  subst e
  have HA := Lib.hid ha
  clear ha
  go_enter Tryd.func12, Tryd.ntmps12
  go_upto_region 1 with fail
  go_cut [5] (fun s5 wx => ∃ h : Int, s5 = .pointer (some ⟨w.heap.size, 0, none⟩) ∧ wx = w.alloc (.cells #[.slice p bs.length c, .int .i64 0, .int .u64 h] 73))
  case first =>
    go_wp2
    go_meet
    exact ⟨_, rfl, rfl⟩
  case rest =>
  obtain ⟨h, rfl, rfl⟩ := hcut
  go_wp2
  go_loopw [6] (fun i wr => ∃ (k : Nat) (z : Int), i = .int .i64 k ∧ k ≤ bs.length ∧ BoxD wr w.heap.size (.slice p bs.length c) (.int .i64 0) (.int .u64 z) ∧ Below w.heap.size w wr) (fun i _ => bs.length - (intOf i).toNat)
  case atStart => exact ⟨0, h, rfl, Nat.zero_le _, BoxD.new _ _ _ _, below_alloc _ _⟩
  case round =>
    obtain ⟨k, z, rfl, hk, hb, hbel⟩ := hrel
    have HB := Lib.hid hb
    have HBEL := Lib.hid hbel
    have c2 := hb.c2
    have f2 := hb.free 2
    clear hb hbel
    by_cases hlt : k < bs.length
    · obtain ⟨xb, xo, rfl, hcx, hx0, hx1⟩ := (HA.out.below HBEL.out).get hlt
      generalize bs[k] = x at hcx hx0 hx1
      go_upto_region 5 with fail
      go_region_with (fail)
      all_goals go_wp2
      all_goals go_roundw
      all_goals first
        | exact ⟨k + 1, _, by go_num, by omega, (HB.out.keep (below_dN (Below.refl _ _) _)).s2 _, (HBEL.out.trans ((below_dN (Below.refl wr.heap.size wr) _).mono HBEL.out.size)).setCell (p := ⟨w.heap.size, 2, none⟩) (Nat.le_refl _) _⟩
        | (simp [intOf]; omega)
    · obtain rfl : k = bs.length := by omega
      go_wp2
      go_ret
      exact ⟨_, rfl, ⟨⟨_, 0, z, HB.out, Nat.zero_le _, HA.out⟩, hl, Nat.le_refl _, HBEL.out⟩, HBEL.out⟩

end Go.Proofs.YtmakhapdlkbbnaaDoor

/- Walks: the laws' own tests of lists: has, alike, all alike; a rising list with one more. -/
namespace Go.Proofs.YtmakhapdlkbbnaaDoor
open Go.RowKit

set_option maxRecDepth 100000 in
set_option maxHeartbeats 400000 in
theorem w9Has_any (v : Value) (xs : List Int) (n : Int) (w : World) (hx : Nums w 2 .i64 v xs) :
    Calls Tryd.prog 32 #[v, .int .i64 n] w fun e w' => e = .returned (.bool (dec (n ∈ xs))) ∧ w = w' := by
  obtain ⟨p, c, rfl, _, _, hn, hat⟩ := hx
  go_enter Tryd.func32, Tryd.ntmps32
  go_wp2
  go_loop [5] (fun i => ∃ k : Nat, k ≤ xs.length ∧ i = .int .i64 k ∧ n ∉ xs.take k) (fun i => xs.length - (intOf i).toNat)
  case atStart => exact ⟨0, Nat.zero_le _, rfl, by simp⟩
  case round =>
    obtain ⟨k, hk, rfl, hnk⟩ := hrel
    by_cases hlt : k < xs.length
    · obtain ⟨b, o, rfl, hcell⟩ := hat.num hlt
      clear hat
      by_cases he : xs[k] = n
      · have he' : (xs[k] == n) = true := by simpa using he
        have H := Lib.hid he
        clear he
        go_wp2
        go_ret
        exact ⟨ret_bool (true_dec (mem_of_getElem hlt H.out)), rfl⟩
      · have he' : (xs[k] == n) = false := by simpa using he
        go_wp2
        go_round
        case rel => exact ⟨k + 1, by omega, by go_num, not_mem_take_succ hlt hnk he⟩
        case measure => simp [intOf]; omega
    · obtain rfl : k = xs.length := by omega
      go_wp2
      go_ret
      rw [List.take_length] at hnk
      exact ⟨ret_bool (false_dec hnk), rfl⟩

set_option maxRecDepth 100000 in
set_option maxHeartbeats 400000 in
theorem w6Has_any (v : Value) (xs : List Int) (n : Int) (w : World) (hx : Nums w 2 .i64 v xs) :
    Calls Tryd.prog 69 #[v, .int .i64 n] w fun e w' => e = .returned (.bool (dec (n ∈ xs))) ∧ w = w' := by
  obtain ⟨p, c, rfl, _, _, hn, hat⟩ := hx
  go_enter Tryd.func69, Tryd.ntmps69
  go_wp2
  go_loop [5] (fun i => ∃ k : Nat, k ≤ xs.length ∧ i = .int .i64 k ∧ n ∉ xs.take k) (fun i => xs.length - (intOf i).toNat)
  case atStart => exact ⟨0, Nat.zero_le _, rfl, by simp⟩
  case round =>
    obtain ⟨k, hk, rfl, hnk⟩ := hrel
    by_cases hlt : k < xs.length
    · obtain ⟨b, o, rfl, hcell⟩ := hat.num hlt
      clear hat
      by_cases he : xs[k] = n
      · have he' : (xs[k] == n) = true := by simpa using he
        have H := Lib.hid he
        clear he
        go_wp2
        go_ret
        exact ⟨ret_bool (true_dec (mem_of_getElem hlt H.out)), rfl⟩
      · have he' : (xs[k] == n) = false := by simpa using he
        go_wp2
        go_round
        case rel => exact ⟨k + 1, by omega, by go_num, not_mem_take_succ hlt hnk he⟩
        case measure => simp [intOf]; omega
    · obtain rfl : k = xs.length := by omega
      go_wp2
      go_ret
      rw [List.take_length] at hnk
      exact ⟨ret_bool (false_dec hnk), rfl⟩

set_option maxRecDepth 100000 in
set_option maxHeartbeats 1000000 in
theorem likeQ_any (u v : Value) (xs ys : List Int) (w : World) (hx : Nums w 2 .i64 u xs) (hy : Nums w 2 .i64 v ys) :
    Calls Tryd.prog 31 #[u, v] w fun e w' => e = .returned (.bool (dec (xs = ys))) ∧ ∃ q, w' = w.drewN q := by
  obtain ⟨p, c, rfl, hp, _, hn, hat⟩ := hx
  obtain ⟨p', c', rfl, hp', _, hn', hat'⟩ := hy
  by_cases hl : xs.length = ys.length
  case neg =>
    have hl' : ((xs.length : Int) != (ys.length : Int)) = true := by simp; omega
    go_enter Tryd.func31, Tryd.ntmps31
    go_wp2
    go_ret
    exact ⟨ret_bool (false_dec fun h => hl (by rw [h])), 0, rfl⟩
  have Hl := Lib.hid hl
  have hl' : ((xs.length : Int) != (ys.length : Int)) = false := by simp; omega
  clear hl
  go_enter Tryd.func31, Tryd.ntmps31
  go_wp2
  go_loopw [5] (fun i wr => ∃ k : Nat, k ≤ xs.length ∧ i = .int .i64 k ∧ xs.take k = ys.take k ∧ ∃ q, wr = w.drewN q) (fun i _ => xs.length - (intOf i).toNat)
  case atStart => exact ⟨0, Nat.zero_le _, rfl, by simp, 0, rfl⟩
  case round =>
    obtain ⟨k, hk, rfl, heq, q, rfl⟩ := hrel
    have Heq := Lib.hid heq
    clear heq
    by_cases hlt : k < xs.length
    · have hlt' : k < ys.length := by have := Hl.out; omega
      obtain ⟨b, o, rfl, hcell⟩ := hat.num hlt
      obtain ⟨b', o', rfl, hcell'⟩ := hat'.num hlt'
      clear hat hat'
      have e0 : (0 : Int) ≤ (k : Int) := by omega
      have e1 : (k : Int) < (xs.length : Int) := by omega
      have e2 : (k : Int) < (ys.length : Int) := by omega
      by_cases he : xs[k] = ys[k]
      · have he' : (xs[k] != ys[k]) = false := by simpa using he
        have He := Lib.hid he
        clear he
        go_wp2
        go_quiet (fail)
        go_wp2
        go_roundw
        case rel => exact ⟨k + 1, by omega, by go_num, by rw [take_snoc xs k hlt, take_snoc ys k hlt', Heq.out, He.out], _, rfl⟩
        case measure => simp [intOf]; omega
      · have he' : (xs[k] != ys[k]) = true := by simpa using he
        have He := Lib.hid he
        clear he
        go_wp2
        go_quiet (fail)
        go_wp2
        go_ret
        exact ⟨ret_bool (false_dec fun h => He.out (by subst h; rfl)), _, World.drewN_drewN _ _ _⟩
    · obtain rfl : k = xs.length := by omega
      go_wp2
      go_ret
      refine ⟨ret_bool (true_dec ?_), q, rfl⟩
      have h := Heq.out
      rwa [List.take_length, Hl.out, List.take_length] at h

theorem likeInts_any (u v : Value) (xs ys : List Int) (w : World) (hx : Nums w 2 .i64 u xs) (hy : Nums w 2 .i64 v ys) :
    Calls Tryd.prog 31 #[u, v] w fun e w' => e = .returned (.bool (dec (xs = ys))) ∧ Below w.heap.size w w' :=
  (likeQ_any u v xs ys w hx hy).mono fun _ _ ⟨h1, q, h2⟩ => ⟨h1, h2 ▸ below_dN (Below.refl _ _) q⟩

theorem intoL_app {v x : Int} : ∀ {l : List Int}, (∃ y ∈ l, ¬ y < v) → intoL (l ++ [x]) v = intoL l v ++ [x]
  | [], h => by obtain ⟨y, hy, _⟩ := h; simp at hy
  | a :: l, h => by
    rw [List.cons_append]
    unfold intoL
    by_cases h1 : a < v
    · rw [if_pos h1, if_pos h1, intoL_app (l := l) (by
        obtain ⟨y, hy, h2⟩ := h
        rcases List.mem_cons.1 hy with rfl | hy
        · exact absurd h1 h2
        · exact ⟨y, hy, h2⟩)]
      rfl
    · rw [if_neg h1, if_neg h1]
      split <;> rfl
theorem intoL_low {v : Int} : ∀ {l : List Int}, (∀ y ∈ l, y < v) → intoL l v = l ++ [v]
  | [], _ => rfl
  | a :: l, h => by
    unfold intoL
    rw [if_pos (h a (List.mem_cons_self ..)), intoL_low fun y hy => h y (List.mem_cons_of_mem _ hy)]
    rfl
theorem intoL_at {v : Int} : ∀ {l : List Int}, (∀ y ∈ l, y < v) → intoL (l ++ [v]) v = l ++ [v]
  | [], _ => by simp [intoL]
  | a :: l, h => by
    rw [List.cons_append]
    unfold intoL
    rw [if_pos (h a (List.mem_cons_self ..)), intoL_at fun y hy => h y (List.mem_cons_of_mem _ hy)]
theorem intoL_up {v x : Int} (hx : v < x) : ∀ {l : List Int}, (∀ y ∈ l, y < v) → intoL (l ++ [x]) v = l ++ [v] ++ [x]
  | [], _ => by
    have h1 : ¬ x < v := by omega
    have h2 : ¬ x = v := by omega
    simp [intoL, h1, h2]
  | a :: l, h => by
    rw [List.cons_append]
    unfold intoL
    rw [if_pos (h a (List.mem_cons_self ..)), intoL_up hx fun y hy => h y (List.mem_cons_of_mem _ hy)]
    rfl

end Go.Proofs.YtmakhapdlkbbnaaDoor

/- Walks: the edges of a graph, of both; how many. -/
namespace Go.Proofs.YtmakhapdlkbbnaaDoor
open Go.RowKit

theorem up_u (k : Nat) (xs : List Int) {i : Nat} (h : i < xs.length) (e : (k : Int) < xs[i]) : upL k (xs.take (i + 1)) = upL k (xs.take i) + 1 := by rw [upL_snoc h, if_pos e]
theorem up_n (k : Nat) (xs : List Int) {i : Nat} (h : i < xs.length) (e : ¬ (k : Int) < xs[i]) : upL k (xs.take (i + 1)) = upL k (xs.take i) := by rw [upL_snoc h, if_neg e, Nat.add_zero]

set_option maxRecDepth 100000 in
set_option maxHeartbeats 4000000 in
theorem l1Edges_any (v : Value) (g : List (List Int)) (h16 : g.length ≤ 16) (h2 : ∀ j, (row g j).length ≤ 16) (w : World) (hg : Gr w v g) :
    Calls Tryd.prog 92 #[v] w fun e w' => ∃ (u : Value) (vals : List Value), e = .returned u ∧ w'.ownsRow w.heap.size 36 1 u (cntE g g.length) vals ∧ Below w.heap.size w w' := by
  have hg0 := hg
  obtain ⟨u, rfl, hr⟩ := hg
  obtain ⟨p, c, rfl, _⟩ := hr.shape
  have hbA := below_alloc w (.cells #[.slice p g.length c] 29)
  have HB := Lib.hid hbA
  have BX := Lib.hid ((Box.new w (.slice p g.length c) 29).alloc (.cells #[] 36))
  have HG := Lib.hid hg0
  have H2 := Lib.hid h2
  have HR := Lib.hid hr
  have HC := Lib.hid (cntE_le h2)
  clear hr hg0 hbA h2
  go_enter Tryd.func92, Tryd.ntmps92
  go_wp2
  go_loopw [3, 4] (fun u i wr => ∃ (k : Nat) (vals : List Value), k ≤ g.length ∧ i = .int .i64 k ∧ wr.ownsRow (w.heap.size + 1) 36 1 u (cntE g k) vals ∧ Below w.heap.size w wr ∧ Box wr w.heap.size 29 (.slice p g.length c))
    (fun _ i _ => g.length - (intOf i).toNat)
  case atStart => exact ⟨0, [], Nat.zero_le _, rfl, ownsRow_empty' _ _ _ _ _ (Nat.le_refl _), HB.out.alloc HB.out.size _, BX.out⟩
  case round =>
    obtain ⟨k, vals, hk, rfl, hown, hbel, hbx⟩ := hrel
    have hc := hbx.cell
    obtain ⟨outp, outc, rfl⟩ := owns_shape hown
    have Hown := Lib.hid hown
    have Hbx := Lib.hid hbx
    have hsz := hbel.size
    clear hown hbx
    by_cases hlt : k < g.length
    · obtain ⟨b, o, rp, rc, rfl, hcell, hnums⟩ := (HR.out.below hbel).get hlt
      clear hcell hnums
      go_wp2_with (go_at_call 87; refine (l1Size_any _ g _ (HG.out.below hbel)).mono ?_; rintro e w4 ⟨rfl, hb4⟩)
      have START : Hid (w4.ownsRow (w.heap.size + 1) 36 1 (.slice outp (cntE g k) outc) (cntE g k) vals ∧ Below w.heap.size w w4 ∧ Box w4 w.heap.size 29 (.slice (some ⟨b, o, none⟩) g.length c)) := Lib.hid
        ⟨ownsRow_below Hown.out hb4, hbel.trans (hb4.mono hsz), Hbx.out.keep hb4⟩
      go_loopw [3, 5] (fun u i wr => ∃ (t : Nat) (vals : List Value), t ≤ (row g k).length ∧ i = .int .i64 t ∧ wr.ownsRow (w.heap.size + 1) 36 1 u (cntE g k + upL k ((row g k).take t)) vals ∧ Below w.heap.size w wr ∧ Box wr w.heap.size 29 (.slice (some ⟨b, o, none⟩) g.length c))
        (fun _ i _ => (row g k).length - (intOf i).toNat)
      case atStart => exact ⟨0, vals, Nat.zero_le _, rfl, START.out.1, START.out.2.1, START.out.2.2⟩
      case round =>
        clear START Hown Hbx hc hbel hsz
        obtain ⟨t, vals2, ht, rfl, hown, hbel, hbx⟩ := hrel
        have hc := hbx.cell
        have hsz := hbel.size
        obtain ⟨outp, outc, rfl⟩ := owns_shape hown
        obtain ⟨_, _, rp, rc, e1, hcell, hnums⟩ := (HR.out.below hbel).get hlt
        cases e1
        have hlen2 := H2.out k
        have hck := HC.out k
        change wr.cell? _ = some (.slice rp (row g k).length rc) at hcell
        change Nums wr _ _ (.slice rp (row g k).length rc) (row g k) at hnums
        have hcb : cntE g k + upL k ((row g k).take t) < 1000000000 := by
          have := upL_le k ((row g k).take t)
          rw [List.length_take] at this
          have : k * 16 ≤ 16 * 16 := Nat.mul_le_mul_right _ (by omega)
          omega
        have Hbx := Lib.hid hbx
        have Hhck := Lib.hid hck
        clear hbx hck
        by_cases hlt2 : t < (row g k).length
        · obtain ⟨rb, ro, rfl, hcx⟩ := hnums.get hlt2
          by_cases hgt : (k : Int) < (row g k)[t]
          · have Hup := Lib.hid (up_u k (row g k) hlt2 hgt)
            generalize (row g k)[t] = X at hcx hgt
            go_wp2_with (at_builtin; refine wpList_app1s ty_rows64 rfl rfl rfl (hown.alloc (.cells #[.int .i64 k, .int .i64 X] 2)) (by rw [size_alloc]; rfl) rfl hcb (by rw [size_alloc]; omega) ?_; intro b7 c8 w7 hown7 hg7 _)
            go_roundw
            case rel =>
              have ha := below_alloc wr (.cells #[.int .i64 k, .int .i64 X] 2)
              refine ⟨t + 1, _, by omega, by go_num, by rw [Hup.out, ← Nat.add_assoc]; exact hown7, below_grown (hbel.alloc hsz _) (hown.alloc _) hg7 (by omega) (by rw [size_alloc]; omega), ?_⟩
              exact (Hbx.out.keep ha).below (below_grown (Below.refl (w.heap.size + 1) _) (hown.alloc _) hg7 (Nat.le_refl _) (by rw [size_alloc]; omega)) (by omega)
            case measure => simp [intOf]; omega
          · have Hup := Lib.hid (up_n k (row g k) hlt2 hgt)
            have Hown := Lib.hid hown
            generalize (row g k)[t] = X at hcx hgt
            clear hown
            go_wp2
            go_roundw
            case rel => exact ⟨t + 1, _, by omega, by go_num, by rw [Hup.out]; exact Hown.out, hbel, Hbx.out⟩
            case measure => simp [intOf]; omega
        · obtain rfl : t = (row g k).length := by omega
          have Hown := Lib.hid hown
          clear hown hnums
          go_wp2
          go_roundw
          case rel =>
            refine ⟨k + 1, vals2, by omega, by go_num, ?_, hbel, Hbx.out⟩
            rw [show cntE g (k + 1) = cntE g k + upL k ((row g k).take (row g k).length) from by rw [List.take_length]; rfl]
            exact Hown.out
          case measure => simp [intOf]; omega
    · obtain rfl : k = g.length := by omega
      go_wp2_with (go_at_call 87; refine (l1Size_any _ g _ (HG.out.below hbel)).mono ?_; rintro e w4 ⟨rfl, hb4⟩)
      go_ret
      exact ⟨_, _, rfl, ownsRow_base (ownsRow_below Hown.out hb4) (by omega), hbel.trans (hb4.mono hsz)⟩

set_option maxRecDepth 100000 in
set_option maxHeartbeats 4000000 in
theorem edgesOf_any (v : Value) (g : List (List Int)) (h16 : g.length ≤ 16) (h2 : ∀ j, (row g j).length ≤ 16) (w : World) (hg : Gr w v g) :
    Calls Tryd.prog 144 #[v] w fun e w' => ∃ (u : Value) (vals : List Value), e = .returned u ∧ w'.ownsRow w.heap.size 36 1 u (cntE g g.length) vals ∧ Below w.heap.size w w' := by
  have hg0 := hg
  obtain ⟨u, rfl, hr⟩ := hg
  obtain ⟨p, c, rfl, _⟩ := hr.shape
  have hbA := below_alloc w (.cells #[.slice p g.length c] 29)
  have HB := Lib.hid hbA
  have BX := Lib.hid ((Box.new w (.slice p g.length c) 29).alloc (.cells #[] 36))
  have H2 := Lib.hid h2
  have HR := Lib.hid hr
  have HC := Lib.hid (cntE_le h2)
  clear hr hg0 hbA h2
  go_enter Tryd.func144, Tryd.ntmps144
  go_wp2
  go_loopw [3, 12] (fun u i wr => ∃ (k : Nat) (vals : List Value), k ≤ g.length ∧ i = .int .i64 k ∧ wr.ownsRow (w.heap.size + 1) 36 1 u (cntE g k) vals ∧ Below w.heap.size w wr)
    (fun _ i _ => g.length - (intOf i).toNat)
  case atStart => exact ⟨0, [], Nat.zero_le _, rfl, ownsRow_empty' _ _ _ _ _ (Nat.le_refl _), HB.out.alloc HB.out.size _⟩
  case round =>
    obtain ⟨k, vals, hk, rfl, hown, hbel⟩ := hrel
    obtain ⟨outp, outc, rfl⟩ := owns_shape hown
    have Hown := Lib.hid hown
    have hsz := hbel.size
    clear hown
    by_cases hlt : k < g.length
    · obtain ⟨b, o, rp, rc, rfl, hcell, hnums⟩ := (HR.out.below hbel).get hlt
      have Hnums := Lib.hid hnums
      clear hnums
      have hlen2 := H2.out k
      have hck := HC.out k
      have hcb : ∀ t, cntE g k + upL k ((row g k).take t) < 1000000000 := fun t => by
        have := upL_le k ((row g k).take t)
        rw [List.length_take] at this
        have : k * 16 ≤ 16 * 16 := Nat.mul_le_mul_right _ (by omega)
        omega
      have Hhck := Lib.hid hck
      have Hcb := Lib.hid hcb
      clear hck hcb
      change wr.cell? _ = some (.slice rp (row g k).length rc) at hcell
      have Hnums2 : Hid (Nums wr 2 .i64 (.slice rp (row g k).length rc) (row g k)) := Lib.hid Hnums.out
      clear Hnums
      go_wp2
      have START : Hid (wr.ownsRow (w.heap.size + 1) 36 1 (.slice outp (cntE g k) outc) (cntE g k) vals ∧ Below w.heap.size w wr) := Lib.hid ⟨Hown.out, hbel⟩
      go_loopw [3, 19] (fun u i wx => ∃ (t : Nat) (vals : List Value), t ≤ (row g k).length ∧ i = .int .i64 t ∧ wx.ownsRow (w.heap.size + 1) 36 1 u (cntE g k + upL k ((row g k).take t)) vals ∧ Below w.heap.size w wx ∧ Nums wx 2 .i64 (.slice rp (row g k).length rc) (row g k))
        (fun _ i _ => (row g k).length - (intOf i).toNat)
      case atStart => exact ⟨0, vals, Nat.zero_le _, rfl, START.out.1, START.out.2, Hnums2.out⟩
      case round =>
        clear START Hown hbel hsz hcell Hnums2
        obtain ⟨t, vals2, ht, rfl, hown, hbel, hnums⟩ := hrel
        have hsz := hbel.size
        obtain ⟨outp, outc, rfl⟩ := owns_shape hown
        have Hnums := Lib.hid hnums
        have hcb := Hcb.out t
        by_cases hlt2 : t < (row g k).length
        · obtain ⟨rb, ro, rfl, hcx⟩ := hnums.get hlt2
          by_cases hgt : (k : Int) < (row g k)[t]
          · have Hup := Lib.hid (up_u k (row g k) hlt2 hgt)
            generalize (row g k)[t] = X at hcx hgt
            clear hnums
            go_wp2_with (at_builtin; refine wpList_app1s ty_rows64 rfl rfl rfl (hown.alloc (.cells #[.int .i64 k, .int .i64 X] 2)) (by rw [size_alloc]; rfl) rfl hcb (by rw [size_alloc]; omega) ?_; intro b7 c8 w7 hown7 hg7 _)
            go_roundw
            case rel =>
              have ha := below_alloc wr (.cells #[.int .i64 k, .int .i64 X] 2)
              exact ⟨t + 1, _, by omega, by go_num, by rw [Hup.out, ← Nat.add_assoc]; exact hown7, below_grown (hbel.alloc hsz _) (hown.alloc _) hg7 (by omega) (by rw [size_alloc]; omega), (Hnums.out.below ha).other (hown.alloc _) hg7 (by decide)⟩
            case measure => simp [intOf]; omega
          · have Hup := Lib.hid (up_n k (row g k) hlt2 hgt)
            have Hown := Lib.hid hown
            generalize (row g k)[t] = X at hcx hgt
            clear hown hnums
            go_wp2
            go_roundw
            case rel => exact ⟨t + 1, _, by omega, by go_num, by rw [Hup.out]; exact Hown.out, hbel, Hnums.out⟩
            case measure => simp [intOf]; omega
        · obtain rfl : t = (row g k).length := by omega
          have Hown := Lib.hid hown
          clear hown hnums
          go_wp2
          go_roundw
          case rel =>
            refine ⟨k + 1, vals2, by omega, by go_num, ?_, hbel⟩
            rw [show cntE g (k + 1) = cntE g k + upL k ((row g k).take (row g k).length) from by rw [List.take_length]; rfl]
            exact Hown.out
          case measure => simp [intOf]; omega
    · obtain rfl : k = g.length := by omega
      go_wp2
      go_ret
      exact ⟨_, _, rfl, ownsRow_base Hown.out (by omega), hbel⟩

end Go.Proofs.YtmakhapdlkbbnaaDoor

/- Walks: how many edges a graph has, of both (out of XFillM, without what that text needs besides). -/
namespace Go.Proofs.YtmakhapdlkbbnaaDoor
open Go.RowKit

theorem gok_rowsN {g : List (List Int)} (hok : GOk g) (j : Nat) : (row g j).length ≤ 16 := by
  have h16 := hok.le
  by_cases hj : j < g.length
  · have h1 := setIn_length (by omega) (hok.sets j hj).1; omega
  · rw [row_out hj]; simp

theorem specManyN_any (v : Value) (g : List (List Int)) (hok : GOk g) (w : World) (hg : Gr w v g) :
    Calls Tryd.prog 20 #[v] w fun e w' => e = .returned (.int .i64 (cntE g g.length : Nat)) ∧ Below w.heap.size w w' := by
  have hg0 := hg
  obtain ⟨u, rfl, hr⟩ := hg
  obtain ⟨p, c, rfl, _⟩ := hr.shape
  have hbA := Lib.hid (below_alloc w (.cells #[.slice p g.length c] 29))
  have BX := Lib.hid (Box.new w (.slice p g.length c) 29)
  have HG := Lib.hid (hg0.below hbA.out)
  have hd := dec_true hok
  have Hok := Lib.hid hok
  have h16 := hok.le
  clear hr hg0 hok
  go_enter Tryd.func20, Tryd.ntmps20
  go_wp2_with (first
    | (go_at_call 85; refine (specGraphOk_any _ g _ HG.out).mono ?_; rintro e w2 ⟨rfl, hb2⟩; have hbx := (BX.out.keep hb2).cell)
    | (go_at_call 92; refine (l1Edges_any _ g h16 (gok_rowsN Hok.out) _ (HG.out.below hb2)).mono ?_; rintro e w3 ⟨u3, vals, rfl, ho3, hb3⟩; obtain ⟨p3, c3, rfl⟩ := owns_shape ho3))
  go_ret
  exact ⟨rfl, (hbA.out.trans (hb2.mono hbA.out.size)).trans (hb3.mono (Nat.le_trans hbA.out.size hb2.size))⟩

theorem implManyN_any (v : Value) (g : List (List Int)) (hok : GOk g) (w : World) (hg : Gr w v g) :
    Calls Tryd.prog 19 #[v] w fun e w' => e = .returned (.int .i64 (cntE g g.length : Nat)) ∧ Below w.heap.size w w' := by
  have hd := dec_true hok
  have Hok := Lib.hid hok
  have h16 := hok.le
  clear hok
  have E : Hid (∀ (w : World), Gr w v g → Calls Tryd.prog 91 #[v] w fun e w' => ∃ p c, e = .returned (.slice p (cntE g g.length) c) ∧ Below w.heap.size w w') := Lib.hid (by
    clear hg w
    intro w hg
    have hg0 := hg
    obtain ⟨u, rfl, hr⟩ := hg
    obtain ⟨p, c, rfl, _⟩ := hr.shape
    have hbA := Lib.hid (below_alloc w (.cells #[.slice p g.length c] 29))
    have BX := Lib.hid (Box.new w (.slice p g.length c) 29)
    have HG := Lib.hid (hg0.below hbA.out)
    clear hr hg0
    go_enter Tryd.func91, Tryd.ntmps91
    go_wp2_with (first
      | (go_at_call 80; refine (implGraphOk_any _ g _ HG.out).mono ?_; rintro e w2 ⟨rfl, hb2⟩; have hbx := (BX.out.keep hb2).cell)
      | (go_at_call 144; refine (edgesOf_any _ g h16 (gok_rowsN Hok.out) _ (HG.out.below hb2)).mono ?_; rintro e w3 ⟨u3, vals, rfl, ho3, hb3⟩; obtain ⟨p3, c3, rfl⟩ := owns_shape ho3))
    go_ret
    exact ⟨_, _, rfl, (hbA.out.trans (hb2.mono hbA.out.size)).trans (hb3.mono (Nat.le_trans hbA.out.size hb2.size))⟩)
  have hg0 := hg
  obtain ⟨u, rfl, hr⟩ := hg
  obtain ⟨p, c, rfl, _⟩ := hr.shape
  have hbA := Lib.hid (below_alloc w (.cells #[.slice p g.length c] 29))
  have HG := Lib.hid (hg0.below hbA.out)
  clear hr hg0
  go_enter Tryd.func19, Tryd.ntmps19
  go_wp2_with (go_at_call 91; refine (E.out _ HG.out).mono ?_; rintro e w2 ⟨p2, c2, rfl, hb2⟩)
  go_ret
  exact ⟨rfl, hbA.out.trans (hb2.mono hbA.out.size)⟩

end Go.Proofs.YtmakhapdlkbbnaaDoor
