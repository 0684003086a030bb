/- Walks: SameGraph, of both. -/
import Derived.Test.YtkppbmfliejnmaaDoorCaQ18
import Derived.Test.YtkppbmfliejnmaaDoorCaQ4
import Derived.Deep.DeepCutAuto
import Derived.Test.YtkppbmfliejnmaaDoorCaQ14
import Derived.Test.YtkppbmfliejnmaaDoorCaQ12
import Derived.Test.YtkppbmfliejnmaaDoorCaQ17
import Derived.Test.YtkppbmfliejnmaaDoorCaQ11
import Derived.Deep.RegionHeld3
namespace Go.Proofs.YtkppbmfliejnmaaDoor
open Go.RowKit

set_option maxRecDepth 100000 in
set_option maxHeartbeats 1000000 in
theorem l1Same_any (u v : Value) (xs ys : List Int) (w : World) (hx : Nums w 2 .i64 u xs) (hy : Nums w 2 .i64 v ys) :
    Calls Tryd.prog 206 #[u, v] w fun e w' => e = .returned (.bool (dec (xs = ys))) ∧ ∃ q, w' = w.drewN q := by
  obtain ⟨p, c, rfl, hp, _, hn, hat⟩ := hx
  obtain ⟨p', c', rfl, hp', _, hn', hat'⟩ := hy
  by_cases hl : xs.length = ys.length
  case neg =>
    have hl' : ((xs.length : Int) != (ys.length : Int)) = true := by simp; omega
    go_enter Tryd.func206, Tryd.ntmps206
    go_wp2
    go_ret
    exact ⟨ret_bool (false_dec fun h => hl (by rw [h])), 0, rfl⟩
  have Hl := Lib.hid hl
  have hl' : ((xs.length : Int) != (ys.length : Int)) = false := by simp; omega
  clear hl
  go_enter Tryd.func206, Tryd.ntmps206
  go_wp2
  go_loopw [5] (fun i wr => ∃ k : Nat, k ≤ xs.length ∧ i = .int .i64 k ∧ xs.take k = ys.take k ∧ ∃ q, wr = w.drewN q) (fun i _ => xs.length - (intOf i).toNat)
  case atStart => exact ⟨0, Nat.zero_le _, rfl, by simp, 0, rfl⟩
  case round =>
    obtain ⟨k, hk, rfl, heq, q, rfl⟩ := hrel
    have Heq := Lib.hid heq
    clear heq
    by_cases hlt : k < xs.length
    · have hlt' : k < ys.length := by have := Hl.out; omega
      obtain ⟨b, o, rfl, hcell⟩ := hat.num hlt
      obtain ⟨b', o', rfl, hcell'⟩ := hat'.num hlt'
      clear hat hat'
      have e0 : (0 : Int) ≤ (k : Int) := by omega
      have e1 : (k : Int) < (xs.length : Int) := by omega
      have e2 : (k : Int) < (ys.length : Int) := by omega
      by_cases he : xs[k] = ys[k]
      · have he' : (xs[k] != ys[k]) = false := by simpa using he
        have He := Lib.hid he
        clear he
        go_wp2
        go_quiet (fail)
        go_wp2
        go_roundw
        case rel => exact ⟨k + 1, by omega, by go_num, by rw [take_snoc xs k hlt, take_snoc ys k hlt', Heq.out, He.out], _, rfl⟩
        case measure => simp [intOf]; omega
      · have he' : (xs[k] != ys[k]) = true := by simpa using he
        have He := Lib.hid he
        clear he
        go_wp2
        go_quiet (fail)
        go_wp2
        go_ret
        exact ⟨ret_bool (false_dec fun h => He.out (by subst h; rfl)), _, World.drewN_drewN _ _ _⟩
    · obtain rfl : k = xs.length := by omega
      go_wp2
      go_ret
      refine ⟨ret_bool (true_dec ?_), q, rfl⟩
      have h := Heq.out
      rwa [List.take_length, Hl.out, List.take_length] at h

set_option maxRecDepth 100000 in
set_option maxHeartbeats 1000000 in
theorem l1SameGraph_any (u v : Value) (g h : List (List Int)) (w : World) (hx : Gr w u g) (hy : Gr w v h) :
    Calls Tryd.prog 146 #[u, v] w fun e w' => e = .returned (.bool (dec (g = h))) ∧ Below w.heap.size w w' := by
  obtain ⟨u, rfl, hx0⟩ := hx
  obtain ⟨v, rfl, hy0⟩ := hy
  obtain ⟨p, c, rfl, hp, _, hn⟩ := hx0.shape
  obtain ⟨p', c', rfl, hp', _, hn'⟩ := hy0.shape
  obtain ⟨W, hW⟩ : ∃ W, W = (w.alloc (.cells #[.slice p g.length c] 29)).alloc (.cells #[.slice p' h.length c'] 29) := ⟨_, rfl⟩
  have hb0 : Below w.heap.size w W := by rw [hW]; exact below_alloc2 _ _ _
  have BA : Box W w.heap.size 29 (.slice p g.length c) := by rw [hW]; exact (Box.new _ _ _).alloc _
  have BB : Box W (w.heap.size + 1) 29 (.slice p' h.length c') := by
    have := Box.new (w.alloc (.cells #[.slice p g.length c] 29)) (.slice p' h.length c') 29
    rw [size_alloc] at this
    rw [hW]; exact this
  have hx := hx0.below hb0
  have hy := hy0.below hb0
  have HB0 := Lib.hid hb0
  have HBA := Lib.hid BA
  have HBB := Lib.hid BB
  have HW := Lib.hid hW
  clear hx0 hy0 hb0 BA BB hW
  obtain ⟨qa, _⟩ := id HBA.out
  obtain ⟨qb, _⟩ := id HBB.out
  by_cases hl : g.length = h.length
  case neg =>
    have hl' : ((g.length : Int) != (h.length : Int)) = true := by simp; omega
    go_enter Tryd.func146, Tryd.ntmps146
    go_upto_region 1 with fail
    rw [← HW.out]
    go_wp2
    go_ret
    exact ⟨ret_bool (false_dec fun e => hl (by rw [e])), HB0.out⟩
  have Hl := Lib.hid hl
  have hl' : ((g.length : Int) != (h.length : Int)) = false := by simp; omega
  clear hl
  go_enter Tryd.func146, Tryd.ntmps146
  go_upto_region 1 with fail
  rw [← HW.out]
  go_wp2
  go_loopw [5] (fun i wr => ∃ k : Nat, k ≤ g.length ∧ i = .int .i64 k ∧ g.take k = h.take k ∧ Below W.heap.size W wr) (fun i _ => g.length - (intOf i).toNat)
  case atStart => exact ⟨0, Nat.zero_le _, rfl, by simp, Below.refl _ _⟩
  case round =>
    clear qa qb
    obtain ⟨k, hk, rfl, heq, hbel⟩ := hrel
    have Heq := Lib.hid heq
    clear heq
    have qa := (HBA.out.keep hbel).cell
    have qb := (HBB.out.keep hbel).cell
    by_cases hlt : k < g.length
    · have hlt' : k < h.length := by have := Hl.out; omega
      obtain ⟨b, o, rp, rc, rfl, hcell, hnums⟩ := (hx.below hbel).get hlt
      obtain ⟨b', o', rp', rc', rfl, hcell', hnums'⟩ := (hy.below hbel).get hlt'
      clear hx hy
      have e0 : (0 : Int) ≤ (k : Int) := by omega
      have e1 : (k : Int) < (g.length : Int) := by omega
      have e2 : (k : Int) < (h.length : Int) := by omega
      have g1 : g.getD k [] = g[k] := by simp [hlt]
      have g2 : h.getD k [] = h[k] := by simp [hlt']
      rw [g1] at hcell hnums
      rw [g2] at hcell' hnums'
      clear g1 g2
      by_cases he : g[k] = h[k]
      · have he' := dec_true he
        have He := Lib.hid he
        clear he
        go_wp2
        go_quiet ((go_at_call 206; exact Calls.quiet_of (l1Same_any _ _ _ _ _ (hnums.below (below_dN (Below.refl _ _) _)) (hnums'.below (below_dN (Below.refl _ _) _)))))
        go_wp2
        go_roundw
        case rel => exact ⟨k + 1, by omega, by go_num, by rw [take_snoc g k hlt, take_snoc h k hlt', Heq.out, He.out], below_dN hbel _⟩
        case measure => simp [intOf]; omega
      · have he' := dec_false he
        have He := Lib.hid he
        clear he
        go_wp2
        go_quiet ((go_at_call 206; exact Calls.quiet_of (l1Same_any _ _ _ _ _ (hnums.below (below_dN (Below.refl _ _) _)) (hnums'.below (below_dN (Below.refl _ _) _)))))
        go_wp2
        go_ret
        exact ⟨ret_bool (false_dec fun e => He.out (by subst e; rfl)), below_dN (HB0.out.trans (hbel.mono HB0.out.size)) _⟩
    · obtain rfl : k = g.length := by omega
      go_wp2
      go_ret
      refine ⟨ret_bool (true_dec ?_), HB0.out.trans (hbel.mono HB0.out.size)⟩
      have e := Heq.out
      rwa [List.take_length, Hl.out, List.take_length] at e

set_option maxRecDepth 100000 in
set_option maxHeartbeats 1000000 in
theorem specSameGraph_any (u v : Value) (g h : List (List Int)) (w : World) (hx : Gr w u g) (hy : Gr w v h) :
    Calls Tryd.prog 60 #[u, v] w fun e w' => e = .returned (.bool (dec (GOk g ∧ GOk h ∧ g = h))) ∧ Below w.heap.size w w' := by
  obtain ⟨u, rfl, hx0⟩ := id hx
  obtain ⟨v, rfl, hy0⟩ := id hy
  obtain ⟨p, c, rfl, hp, _, hn⟩ := hx0.shape
  obtain ⟨p', c', rfl, hp', _, hn'⟩ := hy0.shape
  have hb0 := Lib.hid (below_alloc2 w (.cells #[.slice p g.length c] 29) (.cells #[.slice p' h.length c'] 29))
  have BA := Lib.hid ((Box.new w (.slice p g.length c) 29).alloc (.cells #[.slice p' h.length c'] 29))
  have BB : Hid (Box ((w.alloc (.cells #[.slice p g.length c] 29)).alloc (.cells #[.slice p' h.length c'] 29)) (w.heap.size + 1) 29 (.slice p' h.length c')) := by
    have := Box.new (w.alloc (.cells #[.slice p g.length c] 29)) (.slice p' h.length c') 29
    rw [size_alloc] at this
    exact Lib.hid this
  have HX := Lib.hid (hx.below hb0.out)
  have HY := Lib.hid (hy.below hb0.out)
  have s0 := hb0.out.size
  clear hx hy hx0 hy0
  by_cases h1 : GOk g
  case neg =>
    have hd := dec_false h1
    have H1 := Lib.hid h1
    clear h1
    go_enter Tryd.func60, Tryd.ntmps60
    go_wp2_with (go_at_call 73; refine (specGraphOk_any _ g _ HX.out).mono ?_; rintro e w2 ⟨he, hb2⟩; rw [hd] at he; subst he)
    go_ret
    exact ⟨ret_bool (false_dec fun e => H1.out e.1), hb0.out.trans (hb2.mono s0)⟩
  have hd := dec_true h1
  have H1 := Lib.hid h1
  clear h1
  by_cases h2 : GOk h
  case neg =>
    have hd2 := dec_false h2
    have H2 := Lib.hid h2
    clear h2
    go_enter Tryd.func60, Tryd.ntmps60
    go_wp2_with (first
      | (go_at_call 73; refine (specGraphOk_any _ h _ (HY.out.below hb2)).mono ?_; rintro e w3 ⟨he, hb3⟩; rw [hd2] at he; subst he)
      | (go_at_call 73; refine (specGraphOk_any _ g _ HX.out).mono ?_; rintro e w2 ⟨he, hb2⟩; rw [hd] at he; subst he; have qb := (BB.out.keep hb2).cell))
    go_ret
    exact ⟨ret_bool (false_dec fun e => H2.out e.2.1), (hb0.out.trans (hb2.mono s0)).trans (hb3.mono (Nat.le_trans s0 hb2.size))⟩
  have hd2 := dec_true h2
  have H2 := Lib.hid h2
  clear h2
  go_enter Tryd.func60, Tryd.ntmps60
  go_wp2_with (first
    | (go_at_call 146; refine (l1SameGraph_any _ _ g h _ ((HX.out.below hb2).below hb3) ((HY.out.below hb2).below hb3)).mono ?_; rintro e w4 ⟨rfl, hb4⟩)
    | (go_at_call 73; refine (specGraphOk_any _ h _ (HY.out.below hb2)).mono ?_; rintro e w3 ⟨he, hb3⟩; rw [hd2] at he; subst he; have qa3 := ((BA.out.keep hb2).keep hb3).cell; have qb3 := ((BB.out.keep hb2).keep hb3).cell)
    | (go_at_call 73; refine (specGraphOk_any _ g _ HX.out).mono ?_; rintro e w2 ⟨he, hb2⟩; rw [hd] at he; subst he; have qb := (BB.out.keep hb2).cell))
  go_ret
  exact ⟨ret_bool (dec_congr ⟨fun e => ⟨H1.out, H2.out, e⟩, fun e => e.2.2⟩), ((hb0.out.trans (hb2.mono s0)).trans (hb3.mono (Nat.le_trans s0 hb2.size))).trans (hb4.mono (Nat.le_trans (Nat.le_trans s0 hb2.size) hb3.size))⟩

set_option maxRecDepth 100000 in
set_option maxHeartbeats 1000000 in
theorem slEqual_any (u v : Value) (xs ys : List Int) (w : World) (hx : Nums w 2 .i64 u xs) (hy : Nums w 2 .i64 v ys) :
    Calls Tryd.prog 120 #[u, v] w fun e w' => e = .returned (.bool (dec (xs = ys))) ∧ ∃ q, w' = w.drewN q := by
  obtain ⟨p, c, rfl, hp, _, hn, hat⟩ := hx
  obtain ⟨p', c', rfl, hp', _, hn', hat'⟩ := hy
  by_cases hl : xs.length = ys.length
  case neg =>
    have hl' : ((xs.length : Int) != (ys.length : Int)) = true := by simp; omega
    go_enter Tryd.func120, Tryd.ntmps120
    go_wp2
    go_ret
    exact ⟨ret_bool (false_dec fun h => hl (by rw [h])), 0, rfl⟩
  have Hl := Lib.hid hl
  have hl' : ((xs.length : Int) != (ys.length : Int)) = false := by simp; omega
  clear hl
  go_enter Tryd.func120, Tryd.ntmps120
  go_wp2
  go_loopw [13] (fun i wr => ∃ k : Nat, k ≤ xs.length ∧ i = .int .i64 k ∧ xs.take k = ys.take k ∧ ∃ q, wr = w.drewN q) (fun i _ => xs.length - (intOf i).toNat)
  case atStart => exact ⟨0, Nat.zero_le _, rfl, by simp, 0, rfl⟩
  case round =>
    obtain ⟨k, hk, rfl, heq, q, rfl⟩ := hrel
    have Heq := Lib.hid heq
    clear heq
    by_cases hlt : k < xs.length
    · have hlt' : k < ys.length := by have := Hl.out; omega
      obtain ⟨b, o, rfl, hcell⟩ := hat.num hlt
      obtain ⟨b', o', rfl, hcell'⟩ := hat'.num hlt'
      clear hat hat'
      have e0 : (0 : Int) ≤ (k : Int) := by omega
      have e1 : (k : Int) < (xs.length : Int) := by omega
      have e2 : (k : Int) < (ys.length : Int) := by omega
      by_cases he : xs[k] = ys[k]
      · have he' : (xs[k] != ys[k]) = false := by simpa using he
        have He := Lib.hid he
        clear he
        go_wp2
        go_quiet (fail)
        go_wp2
        go_roundw
        case rel => exact ⟨k + 1, by omega, by go_num, by rw [take_snoc xs k hlt, take_snoc ys k hlt', Heq.out, He.out], _, rfl⟩
        case measure => simp [intOf]; omega
      · have he' : (xs[k] != ys[k]) = true := by simpa using he
        have He := Lib.hid he
        clear he
        go_wp2
        go_quiet (fail)
        go_wp2
        go_ret
        exact ⟨ret_bool (false_dec fun h => He.out (by subst h; rfl)), _, World.drewN_drewN _ _ _⟩
    · obtain rfl : k = xs.length := by omega
      go_wp2
      go_ret
      refine ⟨ret_bool (true_dec ?_), q, rfl⟩
      have h := Heq.out
      rwa [List.take_length, Hl.out, List.take_length] at h

set_option maxRecDepth 100000 in
set_option maxHeartbeats 1000000 in
theorem equalFunc_any (u v : Value) (g h : List (List Int)) (w : World) (hx : Rws w 33 2 u g) (hy : Rws w 33 2 v h) :
    Calls Tryd.prog 119 #[u, v, .func (.func 120) #[] #[]] w fun e w' => e = .returned (.bool (dec (g = h))) ∧ Below w.heap.size w w' := by
  obtain ⟨p, c, rfl, hp, _, hn⟩ := hx.shape
  obtain ⟨p', c', rfl, hp', _, hn'⟩ := hy.shape
  by_cases hl : g.length = h.length
  case neg =>
    have hl' : ((g.length : Int) != (h.length : Int)) = true := by simp; omega
    go_enter Tryd.func119, Tryd.ntmps119
    go_wp2
    go_ret
    exact ⟨ret_bool (false_dec fun e => hl (by rw [e])), Below.refl _ _⟩
  have Hl := Lib.hid hl
  have hl' : ((g.length : Int) != (h.length : Int)) = false := by simp; omega
  clear hl
  go_enter Tryd.func119, Tryd.ntmps119
  go_wp2
  go_loopw [17] (fun i wr => ∃ k : Nat, k ≤ g.length ∧ i = .int .i64 k ∧ g.take k = h.take k ∧ Below w.heap.size w wr) (fun i _ => g.length - (intOf i).toNat)
  case atStart => exact ⟨0, Nat.zero_le _, rfl, by simp, Below.refl _ _⟩
  case round =>
    obtain ⟨k, hk, rfl, heq, hbel⟩ := hrel
    have Heq := Lib.hid heq
    clear heq
    by_cases hlt : k < g.length
    · have hlt' : k < h.length := by have := Hl.out; omega
      obtain ⟨b, o, rp, rc, rfl, hcell, hnums⟩ := (hx.below hbel).get hlt
      obtain ⟨b', o', rp', rc', rfl, hcell', hnums'⟩ := (hy.below hbel).get hlt'
      clear hx hy
      have e0 : (0 : Int) ≤ (k : Int) := by omega
      have e1 : (k : Int) < (g.length : Int) := by omega
      have e2 : (k : Int) < (h.length : Int) := by omega
      have g1 : g.getD k [] = g[k] := by simp [hlt]
      have g2 : h.getD k [] = h[k] := by simp [hlt']
      rw [g1] at hcell hnums
      rw [g2] at hcell' hnums'
      clear g1 g2
      by_cases he : g[k] = h[k]
      · have he' := dec_true he
        have He := Lib.hid he
        clear he
        go_wp2_with (go_at_call 120; refine (slEqual_any _ _ _ _ _ hnums hnums').mono ?_; rintro e w2 ⟨he2, q, rfl⟩; rw [he'] at he2; subst he2)
        go_roundw
        case rel => exact ⟨k + 1, by omega, by go_num, by rw [take_snoc g k hlt, take_snoc h k hlt', Heq.out, He.out], below_dN hbel _⟩
        case measure => simp [intOf]; omega
      · have he' := dec_false he
        have He := Lib.hid he
        clear he
        go_wp2_with (go_at_call 120; refine (slEqual_any _ _ _ _ _ hnums hnums').mono ?_; rintro e w2 ⟨he2, q, rfl⟩; rw [he'] at he2; subst he2)
        go_ret
        exact ⟨ret_bool (false_dec fun e => He.out (by subst e; rfl)), below_dN hbel _⟩
    · obtain rfl : k = g.length := by omega
      go_wp2
      go_ret
      refine ⟨ret_bool (true_dec ?_), hbel⟩
      have e := Heq.out
      rwa [List.take_length, Hl.out, List.take_length] at e

set_option maxRecDepth 100000 in
set_option maxHeartbeats 1000000 in
theorem implSameGraph_any (u v : Value) (g h : List (List Int)) (w : World) (hx : Gr w u g) (hy : Gr w v h) :
    Calls Tryd.prog 40 #[u, v] w fun e w' => e = .returned (.bool (dec (GOk g ∧ GOk h ∧ g = h))) ∧ Below w.heap.size w w' := by
  obtain ⟨u, rfl, hx0⟩ := id hx
  obtain ⟨v, rfl, hy0⟩ := id hy
  obtain ⟨p, c, rfl, hp, _, hn⟩ := hx0.shape
  obtain ⟨p', c', rfl, hp', _, hn'⟩ := hy0.shape
  have hb0 := Lib.hid (below_alloc2 w (.cells #[.slice p g.length c] 29) (.cells #[.slice p' h.length c'] 29))
  have BA := Lib.hid ((Box.new w (.slice p g.length c) 29).alloc (.cells #[.slice p' h.length c'] 29))
  have BB : Hid (Box ((w.alloc (.cells #[.slice p g.length c] 29)).alloc (.cells #[.slice p' h.length c'] 29)) (w.heap.size + 1) 29 (.slice p' h.length c')) := by
    have := Box.new (w.alloc (.cells #[.slice p g.length c] 29)) (.slice p' h.length c') 29
    rw [size_alloc] at this
    exact Lib.hid this
  have HX := Lib.hid (hx.below hb0.out)
  have HY := Lib.hid (hy.below hb0.out)
  have s0 := hb0.out.size
  have HRX := Lib.hid (hx0.below hb0.out)
  have HRY := Lib.hid (hy0.below hb0.out)
  clear hx hy hx0 hy0
  by_cases h1 : GOk g
  case neg =>
    have hd := dec_false h1
    have H1 := Lib.hid h1
    clear h1
    go_enter Tryd.func40, Tryd.ntmps40
    go_wp2_with (go_at_call 87; refine (implGraphOk_any _ g _ HX.out).mono ?_; rintro e w2 ⟨he, hb2⟩; rw [hd] at he; subst he)
    go_ret
    exact ⟨ret_bool (false_dec fun e => H1.out e.1), hb0.out.trans (hb2.mono s0)⟩
  have hd := dec_true h1
  have H1 := Lib.hid h1
  clear h1
  by_cases h2 : GOk h
  case neg =>
    have hd2 := dec_false h2
    have H2 := Lib.hid h2
    clear h2
    go_enter Tryd.func40, Tryd.ntmps40
    go_wp2_with (first
      | (go_at_call 87; refine (implGraphOk_any _ h _ (HY.out.below hb2)).mono ?_; rintro e w3 ⟨he, hb3⟩; rw [hd2] at he; subst he)
      | (go_at_call 87; refine (implGraphOk_any _ g _ HX.out).mono ?_; rintro e w2 ⟨he, hb2⟩; rw [hd] at he; subst he; have qb := (BB.out.keep hb2).cell))
    go_ret
    exact ⟨ret_bool (false_dec fun e => H2.out e.2.1), (hb0.out.trans (hb2.mono s0)).trans (hb3.mono (Nat.le_trans s0 hb2.size))⟩
  have hd2 := dec_true h2
  have H2 := Lib.hid h2
  clear h2
  go_enter Tryd.func40, Tryd.ntmps40
  go_wp2_with (first
    | (go_at_call 119; refine (equalFunc_any _ _ g h _ ((HRX.out.below hb2).below hb3) ((HRY.out.below hb2).below hb3)).mono ?_; rintro e w4 ⟨rfl, hb4⟩)
    | (go_at_call 87; refine (implGraphOk_any _ h _ (HY.out.below hb2)).mono ?_; rintro e w3 ⟨he, hb3⟩; rw [hd2] at he; subst he; have qa3 := ((BA.out.keep hb2).keep hb3).cell; have qb3 := ((BB.out.keep hb2).keep hb3).cell)
    | (go_at_call 87; refine (implGraphOk_any _ g _ HX.out).mono ?_; rintro e w2 ⟨he, hb2⟩; rw [hd] at he; subst he; have qb := (BB.out.keep hb2).cell))
  go_ret
  exact ⟨ret_bool (dec_congr ⟨fun e => ⟨H1.out, H2.out, e⟩, fun e => e.2.2⟩), ((hb0.out.trans (hb2.mono s0)).trans (hb3.mono (Nat.le_trans s0 hb2.size))).trans (hb4.mono (Nat.le_trans (Nat.le_trans s0 hb2.size) hb3.size))⟩


end Go.Proofs.YtkppbmfliejnmaaDoor

/- Walks: the reference's rows of a code, and its test of a small graph. -/
namespace Go.Proofs.YtkppbmfliejnmaaDoor
open Go.RowKit

/-- Edges of a graph, as a search of orders looks at them. -/
def edB (g : List (List Int)) : Nat → Nat → Bool := fun u v => decide ((v : Int) ∈ row g u)

set_option maxHeartbeats 400000 in
theorem l1Flag_any (b : Bool) (w : World) : Calls Tryd.prog 204 #[.bool b] w fun e w' => e = .returned (.int .i64 ((if b then 1 else 0 : Nat) : Int)) ∧ w = w' := by
  cases b
  · go_enter Tryd.func204, Tryd.ntmps204
    go_wp2
    go_ret
    exact ⟨rfl, rfl⟩
  · go_enter Tryd.func204, Tryd.ntmps204
    go_wp2
    go_ret
    exact ⟨rfl, rfl⟩

set_option maxRecDepth 100000 in
set_option maxHeartbeats 1000000 in
theorem l4Small_any (v : Value) (g : List (List Int)) (w : World) (hg : Gr w v g) :
    Calls Tryd.prog 131 #[v] w fun e w' => e = .returned (.bool (dec (GOk g ∧ g.length ≤ 8))) ∧ Below w.heap.size w w' := by
  have hg0 := hg
  obtain ⟨u, rfl, hr⟩ := hg
  obtain ⟨p, c, rfl, _, _, _⟩ := hr.shape
  have hbA := Lib.hid (below_alloc w (.cells #[.slice p g.length c] 29))
  have HG := Lib.hid (hg0.below hbA.out)
  have BX := Lib.hid (Box.new w (.slice p g.length c) 29)
  clear hr hg0
  by_cases hok : GOk g
  · have hd := dec_true hok
    have h16 := hok.le
    have Hok := Lib.hid hok
    clear hok
    by_cases h8 : g.length ≤ 8
    · have h8' : (g.length : Int) ≤ 8 := by omega
      have H8 := Lib.hid h8
      clear h8
      go_enter Tryd.func131, Tryd.ntmps131
      go_wp2_with (first
        | (go_at_call 73; refine (specGraphOk_any _ g _ HG.out).mono ?_; rintro e w2 ⟨rfl, hb2⟩; have hb := Lib.hid (hbA.out.trans (hb2.mono hbA.out.size)); have HG2 := Lib.hid (HG.out.below hb2); have hbx := (BX.out.keep hb2).cell; clear hb2)
        | (go_at_call 132; refine (l1Size_any _ g _ HG2.out).mono ?_; rintro e w3 ⟨rfl, hb3⟩))
      go_ret
      exact ⟨ret_bool (true_dec ⟨Hok.out, H8.out⟩), hb.out.trans (hb3.mono hb.out.size)⟩
    · have h8' : ¬ (g.length : Int) ≤ 8 := by omega
      have H8 := Lib.hid h8
      clear h8
      go_enter Tryd.func131, Tryd.ntmps131
      go_wp2_with (first
        | (go_at_call 73; refine (specGraphOk_any _ g _ HG.out).mono ?_; rintro e w2 ⟨rfl, hb2⟩; have hb := Lib.hid (hbA.out.trans (hb2.mono hbA.out.size)); have HG2 := Lib.hid (HG.out.below hb2); have hbx := (BX.out.keep hb2).cell; clear hb2)
        | (go_at_call 132; refine (l1Size_any _ g _ HG2.out).mono ?_; rintro e w3 ⟨rfl, hb3⟩))
      go_ret
      exact ⟨ret_bool ((decide_eq_false (by omega : ¬ (g.length : Int) ≤ 8)).trans (false_dec fun h => H8.out h.2)), hb.out.trans (hb3.mono hb.out.size)⟩
  · have hd := dec_false hok
    have Hok := Lib.hid hok
    clear hok
    go_enter Tryd.func131, Tryd.ntmps131
    go_wp2_with (go_at_call 73; refine (specGraphOk_any _ g _ HG.out).mono ?_; rintro e w2 ⟨rfl, hb2⟩; have hb := Lib.hid (hbA.out.trans (hb2.mono hbA.out.size)); clear hb2)
    go_ret
    exact ⟨ret_bool (false_dec fun h => Hok.out h.1), hb.out⟩

theorem rowC_take {E : Nat → Nat → Bool} {o : List Nat} {v k : Nat} (h : k < o.length) : rowC E (o.take (k + 1)) v = rowC E (o.take k) v ++ [if E o[k] v then 1 else 0] := by
  unfold rowC; rw [take_snoc' o k h, List.map_append]; rfl
theorem natInts_snoc (l : List Nat) (x : Nat) : natInts (l ++ [x]) = natInts l ++ [(x : Int)] := by simp [natInts]

end Go.Proofs.YtkppbmfliejnmaaDoor

/- Walks: l8Meet, l1All (the reference's cliques). -/
namespace Go.Proofs.YtkppbmfliejnmaaDoor
open Go.RowKit

set_option maxRecDepth 100000 in
set_option maxHeartbeats 1000000 in
theorem l1All_any (z : Int) (n : Nat) (hz : z = n) (hn : n ≤ 1000) (w : World) :
    Calls Tryd.prog 143 #[.int .i64 z] w fun e w' => ∃ ov, e = .returned ov ∧ w'.ownsRow w.heap.size 2 1 ov n ((natInts (List.range n)).map (Value.int .i64)) ∧ Below w.heap.size w w' := by
  subst hz
  have HO := Lib.hid (ownsRow_empty w 2 1)
  have HB := Lib.hid (below_alloc w (.cells #[] 2))
  go_enter Tryd.func143, Tryd.ntmps143
  go_wp2
  go_loopw [3, 4] (fun o i wr => ∃ k : Nat, k ≤ n ∧ i = .int .i64 k ∧ wr.ownsRow w.heap.size 2 1 o k ((natInts (List.range k)).map (Value.int .i64)) ∧ Below w.heap.size w wr) (fun _ i _ => n - (intOf i).toNat)
  case atStart => exact ⟨0, Nat.zero_le _, rfl, HO.out, HB.out⟩
  case round =>
    obtain ⟨k, hk, rfl, hown, hbel⟩ := hrel
    have hsz := hbel.size
    by_cases hlt : k < n
    · go_wp2_with (at_builtin; refine wpList_app1 ty_i64 rfl rfl rfl hown rfl rfl (by omega) (by omega) ?_; intro v' w1 hown' hg _)
      go_roundw
      case rel => exact ⟨k + 1, by omega, by go_num, by rw [List.range_succ, show natInts (List.range k ++ [k]) = natInts (List.range k) ++ [(k : Int)] by simp [natInts], List.map_append]; exact hown', below_grown hbel hown hg (Nat.le_refl _) hsz⟩
      case measure => simp [intOf]; omega
    · obtain rfl : k = n := by omega
      go_wp2
      go_ret
      exact ⟨_, rfl, hown, hbel⟩

theorem nums_at {w : World} {E : TypeId} {p : Option Addr} {m c : Nat} {xs : List Int} (h : Nums w E .i64 (.slice p m c) xs) : At w E p (xs.map (Value.int .i64)) := by
  obtain ⟨p', c', e, _, _, _, hat⟩ := h
  simp only [Value.slice.injEq] at e
  obtain ⟨rfl, _, _⟩ := e
  exact hat
/-- Those of xs that are in ys, up to the k-th. -/
def meetL (xs : List Nat) (ys : List Int) (k : Nat) : List Nat := (xs.take k).filter fun j => decide ((j : Int) ∈ ys)
theorem meetL_succ {xs : List Nat} {ys : List Int} {k : Nat} (h : k < xs.length) : meetL xs ys (k + 1) = if ((xs[k] : Nat) : Int) ∈ ys then meetL xs ys k ++ [xs[k]] else meetL xs ys k := by
  unfold meetL
  rw [take_snoc _ k h, List.filter_append]
  by_cases hm : ((xs[k] : Nat) : Int) ∈ ys
  · rw [if_pos hm]; simp [hm]
  · rw [if_neg hm]; simp [hm]
theorem meetL_len (xs : List Nat) (ys : List Int) (k : Nat) : (meetL xs ys k).length ≤ xs.length := Nat.le_trans (List.length_filter_le _ _) (by rw [List.length_take]; omega)

end Go.Proofs.YtkppbmfliejnmaaDoor

/- Walks: l8Cliques. -/
namespace Go.Proofs.YtkppbmfliejnmaaDoor
open Go.RowKit

theorem wanted_wp {o : Oper} {y : Nat → Option Bool} {X F : Prop} (h : o.guard = none) (k : X) : if Region.wanted o y = true then X else F := by
  have hw : Region.wanted o y = true := by simp [Region.wanted, h]
  rw [if_pos hw]
  exact k
theorem wp_apps {P : Program} {T E : TypeId} {z : Value} {size bytes : Nat} (S : SlTy P T E z size bytes) {w : World} {o : Oper} {a : Act} {K : Act → World → Prop} {Q : Exit → Act → World → Prop}
    {s x : Operand} (ho : o.op = .call { callee := .builtin .append, args := #[s, x], argTypes := #[T, T] })
    {base : Nat} {v : Value} {n : Nat} {xs : List Value} (hs : a.eval s = v) (hown : w.ownsRow base E size v n xs)
    {u : Value} {m : Nat} {news : List Value} (hx : a.eval x = u) (hu : Sl w E u m news) (hl : news.length = m * size) (h1 : ∀ x ∈ news, x.oneCell' = true)
    (hnm : n + m ≤ 1000000000) (hbase : base ≤ w.heap.size)
    (h : ∀ v' w', w'.ownsRow base E size v' (n + m) (xs ++ news) → w.grownBy w' v.ownBlock → K (a.put o.dst v') w') :
    Oper.wp P o a w K Q := by
  obtain ⟨v', w', hr, h2, h3, h4⟩ := run_app S w o.type base v n xs hown u m news hu hl h1 hnm hbase
  unfold Oper.wp execOp
  simp only [ho, resolve, invoke, builtin, Sem.run_bind, Sem.run_pure, Result.andThen_ok, List.map_toArray, List.map_cons, List.map_nil, hs, hx, hr]
  exact h v' w' h2 h3
theorem Nums.slC {w w' : World} {E : TypeId} {v : Value} {l : List Nat} (h : Nums w E .i64 v (natInts l)) (hb : Below w.heap.size w w') : Sl w' E v l.length ((natInts l).map (Value.int .i64)) := by
  have := h.below hb
  unfold Nums at this
  rwa [natInts_length] at this
theorem built_sl {w w' : World} {x : Int} (hb : Below (w.alloc (.cells #[.int .i64 x] 2)).heap.size ((w.alloc (.cells #[.int .i64 x] 2)).drewN 1) w') : Sl w' 2 (.slice (some ⟨w.heap.size, 0, none⟩) 1 1) 1 [Value.int .i64 x] := by
  have h : Sl ((w.alloc (.cells #[.int .i64 x] 2)).drewN 1) 2 (.slice (some ⟨w.heap.size, 0, none⟩) 1 1) 1 [Value.int .i64 x] := by
    refine ⟨_, 1, rfl, (fun e => by cases e), Nat.le_refl _, by omega, Or.inr ⟨w.heap.size, 0, #[.int .i64 x], (0, 0), rfl, heap_alloc_new w _, ?_⟩⟩
    intro j u hu
    match j, hu with
    | 0, hu => simpa using hu
    | j + 1, hu => simp at hu
  exact h.below hb
theorem owns_shapeT {w : World} {base : Nat} {E : TypeId} {size n : Nat} {v : Value} {xs : List Value} (h : w.ownsRow base E size v n xs) : ∃ p c, v = .slice p n c := by
  rcases h.2 with ⟨rfl, h0⟩ | ⟨b, c, _, rfl, _⟩
  · exact ⟨none, 0, by rw [h0]⟩
  · exact ⟨_, _, rfl⟩
theorem row_nat {ps : List (List Nat)} {j : Nat} (h : j < ps.length) : row (ps.map natInts) j = natInts ps[j] := by simp [row, h]
theorem SG.app {w w' : World} {base : Nat} {u u' : Value} {ps qs : List (List Nat)} {vals vals2 : List Value} (hl : vals.length = ps.length) (hl2 : vals2.length = qs.length) (ho : w.ownsRow base 33 1 u ps.length vals) (hr : ∀ j, j < ps.length → Nums w 2 .i64 (vals.getD j undef) (row (ps.map natInts) j))
    (hr2 : ∀ j, j < qs.length → Nums w 2 .i64 (vals2.getD j undef) (row (qs.map natInts) j)) (ho' : w'.ownsRow base 33 1 u' (ps.length + qs.length) (vals ++ vals2)) (hg : w.grownBy w' u.ownBlock) : SG w' base (.agg #[u']) ((ps ++ qs).map natInts) := by
  refine ⟨u', vals ++ vals2, rfl, by simp [hl, hl2], by rw [List.length_map, List.length_append]; exact ho', fun j hj => ?_⟩
  rw [List.length_map, List.length_append] at hj
  rw [row_nat (by rw [List.length_append]; exact hj)]
  by_cases h : j < ps.length
  · have e : (vals ++ vals2).getD j undef = vals.getD j undef := by
      rw [List.getD_eq_getElem?_getD, List.getD_eq_getElem?_getD, List.getElem?_append_left (by omega)]
    rw [e, List.getElem_append_left h, ← row_nat h]
    exact (hr j h).other ho hg (by decide)
  · have e : (vals ++ vals2).getD j undef = vals2.getD (j - ps.length) undef := by
      rw [List.getD_eq_getElem?_getD, List.getD_eq_getElem?_getD, List.getElem?_append_right (by omega), hl]
    rw [e, List.getElem_append_right (by omega), ← row_nat (by omega)]
    exact (hr2 _ (by omega)).other ho hg (by decide)
theorem sg_baseC {w : World} {b B : Nat} {v : Value} {g : List (List Int)} (h : SG w B v g) (hb : b ≤ B) : SG w b v g := by
  obtain ⟨u, vals, h1, h2, h3, h4⟩ := h
  exact ⟨u, vals, h1, h2, ownsRow_base h3 hb, h4⟩
theorem sg_one {w : World} {base : Nat} {v : Value} {l : List Nat} (hb : base ≤ w.heap.size) (h : Nums w 2 .i64 v (natInts l)) :
    SG (w.alloc (.cells #[v] 33)) base (.agg #[.slice (some ⟨w.heap.size, 0, none⟩) 1 1]) ([l].map natInts) := by
  refine ⟨_, [v], rfl, rfl, ⟨rfl, .inr ⟨w.heap.size, 1, #[v], rfl, hb, heap_alloc_new w _, Nat.le_refl _, by decide, rfl, rfl⟩⟩, fun j hj => ?_⟩
  obtain rfl : j = 0 := by simp at hj; omega
  exact h.below (below_alloc w _)
theorem sg_cells {w : World} {gg : List (List Int)} {vals : List Value} (hl : vals.length = gg.length) (h : ∀ j, j < gg.length → Nums w 2 .i64 (vals.getD j undef) (row gg j)) : ∀ x ∈ vals, x.oneCell' = true := by
  intro x hx
  obtain ⟨j, hj, rfl⟩ := List.getElem_of_mem hx
  have hn := h j (by omega)
  have e : vals.getD j undef = vals[j] := by rw [List.getD_eq_getElem?_getD, List.getElem?_eq_getElem hj]; rfl
  rw [e] at hn
  obtain ⟨p, c, e, _⟩ := hn.shape
  rw [e]
  rfl

def adS (g : List (List Int)) : Nat → Nat → Bool := fun r j => decide ((j : Int) ∈ row g r)

theorem nums_drop1 {w : World} {E : TypeId} {b o c k : Nat} {l : List Nat} (hk : k ≤ l.length) (h : Nums w E .i64 (.slice (some ⟨b, o, none⟩) l.length c) (natInts l)) : Nums w E .i64 (.slice (some ⟨b, o + k, none⟩) (l.length - k) (c - k)) (natInts (l.drop k)) := by
  obtain ⟨p, c', e, _, hnc, hn, hat⟩ := h.shape
  simp only [Value.slice.injEq] at e
  obtain ⟨rfl, -, rfl⟩ := e
  rw [natInts_length] at hnc hn
  refine ⟨_, _, by rw [natInts_length, List.length_drop], (fun e => by cases e), by rw [natInts_length, List.length_drop]; omega, by rw [natInts_length, List.length_drop]; omega, ?_⟩
  have e3 : (natInts (l.drop k)).map (Value.int .i64) = ((natInts l).map (Value.int .i64)).drop k := by simp [natInts, List.map_drop]
  rw [e3]
  exact hat.drop k
theorem nums_drop0 {w : World} {E : TypeId} {b o c k : Nat} {l : List Nat} (hk : l.length = k) (_h : Nums w E .i64 (.slice (some ⟨b, o, none⟩) l.length c) (natInts l)) : Nums w E .i64 (.slice (some ⟨b, o, none⟩) 0 0) (natInts (l.drop k)) := by
  have e : l.drop k = [] := List.drop_of_length_le (by omega)
  rw [e]
  exact ⟨_, 0, rfl, (fun e => by cases e), by simp [natInts], by simp [natInts], .inl rfl⟩
theorem take_sl {w : World} {E : TypeId} {a : Addr} {n c k : Nat} {l : List Nat} (hk : k ≤ l.length) (h : Nums w E .i64 (.slice (some a) n c) (natInts l)) : Sl w E (.slice (some a) k c) k ((natInts (l.take k)).map (Value.int .i64)) := by
  obtain ⟨p, c', e, _, hnc, hn, hat⟩ := h.shape
  simp only [Value.slice.injEq] at e
  obtain ⟨rfl, -, rfl⟩ := e
  rw [natInts_length] at hnc hn
  refine ⟨_, _, rfl, (fun e => by cases e), by omega, by omega, ?_⟩
  have e3 : (natInts (l.take k)).map (Value.int .i64) = ((natInts l).map (Value.int .i64)).take k := by simp [natInts, List.map_take]
  rw [e3]
  exact hat.take k
theorem natInts_app (l m : List Nat) : natInts (l ++ m) = natInts l ++ natInts m := by simp [natInts]
theorem meet_end {w : World} {base : Nat} {E : TypeId} {v : Value} {xs : List Nat} {g : List (List Int)} {y : Nat} (h : w.ownsRow base E 1 v (meetL xs (g.getD y []) xs.length).length ((natInts (meetL xs (g.getD y []) xs.length)).map (Value.int .i64))) :
    w.ownsRow base E 1 v (xs.filter (adS g y)).length ((natInts (xs.filter (adS g y))).map (Value.int .i64)) := by
  have e : meetL xs (g.getD y []) xs.length = xs.filter (adS g y) := by
    unfold meetL
    rw [List.take_length]
    rfl
  rwa [e] at h

end Go.Proofs.YtkppbmfliejnmaaDoor
