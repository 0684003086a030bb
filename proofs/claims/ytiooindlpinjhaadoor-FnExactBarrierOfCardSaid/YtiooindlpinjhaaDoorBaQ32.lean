/- Walks: what the exact laws do with their arguments and results, third part. -/
import Derived.Test.YtiooindlpinjhaaDoorBaQ31
import Derived.Test.YtiooindlpinjhaaDoorBaQ8
import Derived.Deep.DeepCutAuto
import Derived.Test.YtiooindlpinjhaaDoorBaQ14
import Derived.Test.YtiooindlpinjhaaDoorBaQ16
import Derived.Deep.RegionHeld3
import Derived.Test.YtiooindlpinjhaaDoorBaQ30
import Derived.Test.YtiooindlpinjhaaDoorBaQ18
import Derived.Deep.RegionWith
import Derived.Test.YtiooindlpinjhaaDoorBaQ20
namespace Go.Proofs.YtiooindlpinjhaaDoor
open Go.RowKit

set_option maxRecDepth 100000 in
set_option maxHeartbeats 1000000 in
theorem eqInt64SS_any (u v : Value) (g h : List (List Int)) (w : World) (hx : Rws w 26 2 u g) (hy : Rws w 26 2 v h) :
    Calls Tryd.prog 31 #[u, v] w fun e w' => e = .returned (.bool (dec (g = h))) ∧ Below w.heap.size w w' := by
  obtain ⟨p, c, rfl, hp, _, hn⟩ := hx.shape
  obtain ⟨p', c', rfl, hp', _, hn'⟩ := hy.shape
  by_cases hl : g.length = h.length
  case neg =>
    have hl' : ((g.length : Int) != (h.length : Int)) = true := by simp; omega
    go_enter Tryd.func31, Tryd.ntmps31
    go_wp2
    go_ret
    exact ⟨ret_bool (false_dec fun e => hl (by rw [e])), Below.refl _ _⟩
  have Hl := Lib.hid hl
  have hl' : ((g.length : Int) != (h.length : Int)) = false := by simp; omega
  clear hl
  go_enter Tryd.func31, Tryd.ntmps31
  go_wp2
  go_loopw [5] (fun i wr => ∃ k : Nat, k ≤ g.length ∧ i = .int .i64 k ∧ g.take k = h.take k ∧ Below w.heap.size w wr) (fun i _ => g.length - (intOf i).toNat)
  case atStart => exact ⟨0, Nat.zero_le _, rfl, by simp, Below.refl _ _⟩
  case round =>
    obtain ⟨k, hk, rfl, heq, hbel⟩ := hrel
    have Heq := Lib.hid heq
    clear heq
    by_cases hlt : k < g.length
    · have hlt' : k < h.length := by have := Hl.out; omega
      obtain ⟨b, o, rp, rc, rfl, hcell, hnums⟩ := (hx.below hbel).get hlt
      obtain ⟨b', o', rp', rc', rfl, hcell', hnums'⟩ := (hy.below hbel).get hlt'
      clear hx hy
      have e0 : (0 : Int) ≤ (k : Int) := by omega
      have e1 : (k : Int) < (g.length : Int) := by omega
      have e2 : (k : Int) < (h.length : Int) := by omega
      have g1 : g.getD k [] = g[k] := by simp [hlt]
      have g2 : h.getD k [] = h[k] := by simp [hlt']
      rw [g1] at hcell hnums
      rw [g2] at hcell' hnums'
      clear g1 g2
      by_cases he : g[k] = h[k]
      · have he' := dec_true he
        have He := Lib.hid he
        clear he
        go_wp2
        go_quiet ((go_at_call 11; exact Calls.quiet_of (eqInt64S_any _ _ _ _ _ (hnums.below (below_dN (Below.refl _ _) _)) (hnums'.below (below_dN (Below.refl _ _) _)))))
        go_wp2
        go_roundw
        case rel => exact ⟨k + 1, by omega, by go_num, by rw [take_snoc g k hlt, take_snoc h k hlt', Heq.out, He.out], below_dN hbel _⟩
        case measure => simp [intOf]; omega
      · have he' := dec_false he
        have He := Lib.hid he
        clear he
        go_wp2
        go_quiet ((go_at_call 11; exact Calls.quiet_of (eqInt64S_any _ _ _ _ _ (hnums.below (below_dN (Below.refl _ _) _)) (hnums'.below (below_dN (Below.refl _ _) _)))))
        go_wp2
        go_ret
        exact ⟨ret_bool (false_dec fun e => He.out (by subst e; rfl)), below_dN hbel _⟩
    · obtain rfl : k = g.length := by omega
      go_wp2
      go_ret
      refine ⟨ret_bool (true_dec ?_), hbel⟩
      have e := Heq.out
      rwa [List.take_length, Hl.out, List.take_length] at e

set_option maxRecDepth 100000 in
set_option maxHeartbeats 1000000 in
theorem eqGraph_any (u v : Value) (g h : List (List Int)) (w : World) (hx : Gr w u g) (hy : Gr w v h) :
    Calls Tryd.prog 12 #[u, v] w fun e w' => e = .returned (.bool (dec (g = h))) ∧ Below w.heap.size w w' := by
  obtain ⟨u, rfl, hx⟩ := hx
  obtain ⟨v, rfl, hy⟩ := hy
  obtain ⟨p, c, rfl, hp, _, hn⟩ := hx.shape
  obtain ⟨p', c', rfl, hp', _, hn'⟩ := hy.shape
  have hb0 : Below w.heap.size w ((w.alloc (.cells #[.slice p g.length c] 28)).alloc (.cells #[.slice p' h.length c'] 28)) := (below_alloc w _).alloc (by rw [size_alloc]; omega) _
  have hx1 := hx.below hb0
  have hy1 := hy.below hb0
  by_cases he : g = h
  · have he' := dec_true he
    have He := Lib.hid he
    clear he
    go_enter Tryd.func12, Tryd.ntmps12
    go_wp2_with (go_at_call 31; refine (eqInt64SS_any _ _ g h _ hx1 hy1).mono ?_; rintro e w2 ⟨rfl, hb2⟩)
    go_ret
    exact ⟨ret_bool (true_dec He.out), hb0.trans (hb2.mono hb0.size)⟩
  · have he' := dec_false he
    have He := Lib.hid he
    clear he
    go_enter Tryd.func12, Tryd.ntmps12
    go_wp2_with (go_at_call 31; refine (eqInt64SS_any _ _ g h _ hx1 hy1).mono ?_; rintro e w2 ⟨rfl, hb2⟩)
    go_ret
    exact ⟨ret_bool (false_dec He.out), hb0.trans (hb2.mono hb0.size)⟩

/-- The marks k, k + 1, .. -/
def marks (k : Int) (n : Nat) : List Int := (List.range n).map fun (i : Nat) => k + (i : Int)
theorem marks_length (k : Int) (n : Nat) : (marks k n).length = n := by simp [marks]
theorem marks_succ (k : Int) (n : Nat) : marks k (n + 1) = marks k n ++ [k + n] := by simp [marks, List.range_succ]

theorem set_marks (ys : List Value) (n k : Nat) (m : Int) (hy : ys.length = n) (hk : k < n) :
    (((marks m k).map (Value.int .i64)) ++ ys.drop k).set k (.int .i64 (m + k)) = ((marks m (k + 1)).map (Value.int .i64)) ++ ys.drop (k + 1) := by
  have hl : ((marks m k).map (Value.int .i64)).length = k := by simp [marks_length]
  rw [List.set_append, if_neg (by omega), hl, Nat.sub_self, marks_succ, List.map_append, List.append_assoc]
  congr 1
  rw [List.drop_eq_getElem_cons (by omega)]
  rfl

set_option maxRecDepth 100000 in
set_option maxHeartbeats 1000000 in
theorem markInt64S_any (v : Value) (n base : Nat) (ys : List Value) (k : Int) (hn : n ≤ 1000000000) (h0 : 0 ≤ k) (h1 : k ≤ 2000000000000000) (w : World) (ho : w.ownsRow base 2 1 v n ys) :
    Calls Tryd.prog 14 #[v, .int .i64 k] w fun e w' => e = .returned (.int .i64 (k + n)) ∧
      w'.ownsRow base 2 1 v n ((marks k n).map (Value.int .i64)) ∧ w.grownBy w' v.ownBlock ∧ w'.heap.size = w.heap.size := by
  have hyl : ys.length = n := by simpa using ho.1
  rcases ho.2 with ⟨rfl, rfl⟩ | ⟨b, cap, cur, rfl, _⟩
  · obtain rfl := List.eq_nil_of_length_eq_zero hyl
    go_enter Tryd.func14, Tryd.ntmps14
    go_wp2
    refine wp_loop_rounds 1 ?_
    rw [rounds_succ]
    go_wp2
    go_ret
    exact ⟨ret_int (by simp), by simpa [marks] using ho, World.grownBy.refl _ _, rfl⟩
  have Hyl := Lib.hid hyl
  clear hyl
  go_enter Tryd.func14, Tryd.ntmps14
  go_wp2
  go_loopw [1, 5] (fun z i wr => ∃ j : Nat, j ≤ n ∧ i = .int .i64 j ∧ z = .int .i64 (k + j) ∧ wr.ownsRow base 2 1 (.slice (some ⟨b, 0, none⟩) n cap) n ((marks k j).map (Value.int .i64) ++ ys.drop j) ∧ w.grownBy wr (some b) ∧ wr.heap.size = w.heap.size)
    (fun _ i _ => n - (intOf i).toNat)
  case atStart => exact ⟨0, Nat.zero_le _, rfl, by simp, by simpa [marks] using ho, World.grownBy.refl _ _, rfl⟩
  case round =>
    clear ho
    obtain ⟨j, hj, rfl, rfl, hown, hgr, hsz⟩ := hrel
    have Hsz := Lib.hid hsz
    clear hsz
    by_cases hlt : j < n
    · have hf := hown.frozenAt j
      have hc := hown.cellAt j (by omega)
      obtain ⟨old, hold⟩ : ∃ old, ((marks k j).map (Value.int .i64) ++ ys.drop j)[j]? = some old := ⟨_, List.getElem?_eq_getElem (by have := Hyl.out; simp [marks_length]; omega)⟩
      rw [hold] at hc
      obtain ⟨ho2, hg2⟩ := hown.stored j (.int .i64 (k + j))
      rw [set_marks ys n j k Hyl.out hlt] at ho2
      have Ho2 := Lib.hid ho2
      have Hg2 := Lib.hid (grown_trans hgr hg2)
      clear ho2 hown hg2 hgr hold
      go_wp2
      go_roundw
      case rel => exact ⟨j + 1, by omega, by go_num, val_int (by omega), Ho2.out, Hg2.out, by simpa [World.setCell] using Hsz.out⟩
      case measure => simp [intOf]; omega
    · obtain rfl : j = n := by omega
      go_wp2
      go_ret
      have e := Hyl.out
      rw [List.drop_of_length_le (by omega), List.append_nil] at hown
      exact ⟨rfl, hown, hgr, Hsz.out⟩

set_option maxRecDepth 100000 in
set_option maxHeartbeats 1000000 in
theorem heldInt64S_any (v : Value) (n : Nat) (k : Int) (h0 : 0 ≤ k) (h1 : k ≤ 2000000000000000) (w : World) (hx : Nums w 2 .i64 v (marks k n)) :
    Calls Tryd.prog 15 #[v, .int .i64 k] w fun e w' => e = .returned (.int .i64 (k + n)) ∧ w = w' := by
  obtain ⟨p, c, rfl, hp, _, hn, hat⟩ := hx
  have Hl := Lib.hid (marks_length k n)
  rw [marks_length] at hn
  rw [marks_length]
  clear hp
  go_enter Tryd.func15, Tryd.ntmps15
  go_wp2
  go_loop [1, 5] (fun z i => ∃ j : Nat, j ≤ n ∧ i = .int .i64 j ∧ z = .int .i64 (k + j)) (fun _ i => n - (intOf i).toNat)
  case atStart => exact ⟨0, Nat.zero_le _, rfl, by simp⟩
  case round =>
    obtain ⟨j, hj, rfl, rfl⟩ := hrel
    by_cases hlt : j < n
    · obtain ⟨b, o, rfl, hcell⟩ := hat.num (k := j) (by have := Hl.out; omega)
      have e : (marks k n)[j]'(by have := Hl.out; omega) = k + j := by simp [marks]
      rw [e] at hcell
      clear e hat
      go_wp2
      go_round
      case rel => exact ⟨j + 1, by omega, by go_num, val_int (by omega)⟩
      case measure => simp [intOf]; omega
    · obtain rfl : j = n := by omega
      go_wp2
      go_ret
      exact ⟨rfl, rfl⟩

end Go.Proofs.YtiooindlpinjhaaDoor

/- Walks: SameGraph, of both. -/
namespace Go.Proofs.YtiooindlpinjhaaDoor
open Go.RowKit

set_option maxRecDepth 100000 in
set_option maxHeartbeats 1000000 in
theorem l1Same_any (u v : Value) (xs ys : List Int) (w : World) (hx : Nums w 2 .i64 u xs) (hy : Nums w 2 .i64 v ys) :
    Calls Tryd.prog 86 #[u, v] w fun e w' => e = .returned (.bool (dec (xs = ys))) ∧ ∃ q, w' = w.drewN q := by
  obtain ⟨p, c, rfl, hp, _, hn, hat⟩ := hx
  obtain ⟨p', c', rfl, hp', _, hn', hat'⟩ := hy
  by_cases hl : xs.length = ys.length
  case neg =>
    have hl' : ((xs.length : Int) != (ys.length : Int)) = true := by simp; omega
    go_enter Tryd.func86, Tryd.ntmps86
    go_wp2
    go_ret
    exact ⟨ret_bool (false_dec fun h => hl (by rw [h])), 0, rfl⟩
  have Hl := Lib.hid hl
  have hl' : ((xs.length : Int) != (ys.length : Int)) = false := by simp; omega
  clear hl
  go_enter Tryd.func86, Tryd.ntmps86
  go_wp2
  go_loopw [5] (fun i wr => ∃ k : Nat, k ≤ xs.length ∧ i = .int .i64 k ∧ xs.take k = ys.take k ∧ ∃ q, wr = w.drewN q) (fun i _ => xs.length - (intOf i).toNat)
  case atStart => exact ⟨0, Nat.zero_le _, rfl, by simp, 0, rfl⟩
  case round =>
    obtain ⟨k, hk, rfl, heq, q, rfl⟩ := hrel
    have Heq := Lib.hid heq
    clear heq
    by_cases hlt : k < xs.length
    · have hlt' : k < ys.length := by have := Hl.out; omega
      obtain ⟨b, o, rfl, hcell⟩ := hat.num hlt
      obtain ⟨b', o', rfl, hcell'⟩ := hat'.num hlt'
      clear hat hat'
      have e0 : (0 : Int) ≤ (k : Int) := by omega
      have e1 : (k : Int) < (xs.length : Int) := by omega
      have e2 : (k : Int) < (ys.length : Int) := by omega
      by_cases he : xs[k] = ys[k]
      · have he' : (xs[k] != ys[k]) = false := by simpa using he
        have He := Lib.hid he
        clear he
        go_wp2
        go_quiet (fail)
        go_wp2
        go_roundw
        case rel => exact ⟨k + 1, by omega, by go_num, by rw [take_snoc xs k hlt, take_snoc ys k hlt', Heq.out, He.out], _, rfl⟩
        case measure => simp [intOf]; omega
      · have he' : (xs[k] != ys[k]) = true := by simpa using he
        have He := Lib.hid he
        clear he
        go_wp2
        go_quiet (fail)
        go_wp2
        go_ret
        exact ⟨ret_bool (false_dec fun h => He.out (by subst h; rfl)), _, World.drewN_drewN _ _ _⟩
    · obtain rfl : k = xs.length := by omega
      go_wp2
      go_ret
      refine ⟨ret_bool (true_dec ?_), q, rfl⟩
      have h := Heq.out
      rwa [List.take_length, Hl.out, List.take_length] at h

end Go.Proofs.YtiooindlpinjhaaDoor

/- Walks: how the reference says that a vertex may be pruned. -/
namespace Go.Proofs.YtiooindlpinjhaaDoor
open Go.RowKit

theorem owns_shapeA {w : World} {base : Nat} {E : TypeId} {size n : Nat} {v : Value} {xs : List Value} (h : w.ownsRow base E size v n xs) : ∃ p c, v = .slice p n c := by
  rcases h.2 with ⟨rfl, h0⟩ | ⟨b, c, _, rfl, _⟩
  · exact ⟨none, 0, by rw [h0]⟩
  · exact ⟨_, _, rfl⟩

def nearT (g : List (List Int)) (L : List Int) (k : Nat) (b : Int) (t : Nat) : List Int := ((row g k).take t).filter fun x => decide (x ≠ b ∧ x ∈ L)
theorem nearT_succ {g : List (List Int)} {L : List Int} {k : Nat} {b : Int} {t : Nat} (h : t < (row g k).length) :
    nearT g L k b (t + 1) = if (row g k)[t] ≠ b ∧ (row g k)[t] ∈ L then nearT g L k b t ++ [(row g k)[t]] else nearT g L k b t := by
  unfold nearT
  rw [take_snoc _ t h, List.filter_append]
  split
  · rename_i hc; rw [List.filter_cons_of_pos (by simpa using hc)]; rfl
  · rename_i hc; rw [List.filter_cons_of_neg (by simpa using hc)]; simp
theorem nearT_len (g : List (List Int)) (L : List Int) (k : Nat) (b : Int) (t : Nat) : (nearT g L k b t).length ≤ (row g k).length :=
  Nat.le_trans (List.length_filter_le _ _) (by rw [List.length_take]; omega)
theorem nearT_end (g : List (List Int)) (L : List Int) (k : Nat) (b : Int) : nearT g L k b (row g k).length = nearB g L k b := by
  unfold nearT nearB; rw [List.take_length]

end Go.Proofs.YtiooindlpinjhaaDoor

/- Walk: the reference says whether a vertex may be pruned so. -/
namespace Go.Proofs.YtiooindlpinjhaaDoor
open Go.RowKit

theorem cells3 (w : World) (a b c : Value) (T : TypeId) : (w.alloc (.cells #[a, b, c] T)).cell? ⟨w.heap.size, 0, none⟩ = some a ∧ (w.alloc (.cells #[a, b, c] T)).cell? ⟨w.heap.size, 1, none⟩ = some b ∧ (w.alloc (.cells #[a, b, c] T)).cell? ⟨w.heap.size, 2, none⟩ = some c := by
  have := heap_alloc_new w (.cells #[a, b, c] T)
  refine ⟨?_, ?_, ?_⟩ <;> (unfold World.cell?; rw [this]; rfl)

theorem nearB_16 {g : List (List Int)} (hok : GOk g) {L : List Int} {v : Nat} (hv : v < g.length) (b : Int) : (nearB g L v b).length ≤ 16 :=
  Nat.le_trans (nearB_len g L v b) (gOk_row_le hok v hv)

theorem goP_one {g : List (List Int)} {L : List Int} {v : Nat} (hL : ∀ x ∈ L, 0 ≤ x) : GoP g L v (-1) 1 ↔ (nearB g L v (-1)).length = 0 := by
  rw [nearB_nil]
  constructor
  · rintro (⟨_, _, h⟩ | ⟨h, _⟩)
    · intro x hx hr
      rw [Int.toNat_natCast] at h
      exact absurd hr (h x hx)
    · have := hL _ h; omega
  · intro h
    refine .inl ⟨rfl, rfl, fun x hx hr => ?_⟩
    rw [Int.toNat_natCast] at hr
    have := h x hx hr
    have := hL x hx
    omega
theorem goP_two {g : List (List Int)} (hok : GOk g) {L : List Int} {v b : Nat} (hv : v < g.length) (hb : (b : Int) ∈ L) (hvb : b ≠ v) :
    GoP g L v b 2 ↔ (b : Int) ∈ row g v ∧ (nearB g L v b).length = 0 := by
  rw [nearB_nil]
  constructor
  · rintro (⟨h, _⟩ | ⟨_, _, h⟩)
    · omega
    · rcases h with ⟨_, h⟩ | ⟨h, _⟩ | ⟨h, _⟩
      · simp only [Int.toNat_natCast] at h
        exact ⟨(h _ hb).2 rfl, fun x hx hr => (h x hx).1 hr⟩
      · omega
      · omega
  · rintro ⟨h1, h2⟩
    refine .inr ⟨hb, by omega, .inl ⟨rfl, fun x hx => ?_⟩⟩
    rw [Int.toNat_natCast]
    exact ⟨fun hr => h2 x hx hr, fun e => by subst e; exact h1⟩
theorem goP_three {g : List (List Int)} (hok : GOk g) {L : List Int} {v b : Nat} (hv : v < g.length) (hbl : b < g.length) (hvL : (v : Int) ∈ L) (hb : (b : Int) ∈ L) (hvb : b ≠ v) :
    GoP g L v b 3 ↔ (b : Int) ∉ row g v ∧ nearB g L v b = nearB g L b v := by
  rw [nearB_same hok hv hbl hvL hb (fun e => hvb e.symm)]
  constructor
  · rintro (⟨h, _⟩ | ⟨_, _, h⟩)
    · omega
    · rcases h with ⟨h, _⟩ | ⟨_, h⟩ | ⟨h, _⟩
      · omega
      · simpa only [Int.toNat_natCast] using h
      · omega
  · intro h
    exact .inr ⟨hb, by omega, .inr (.inl ⟨rfl, by simpa only [Int.toNat_natCast] using h⟩)⟩
theorem goP_four {g : List (List Int)} (hok : GOk g) {L : List Int} {v b : Nat} (hv : v < g.length) (hbl : b < g.length) (hvL : (v : Int) ∈ L) (hb : (b : Int) ∈ L) (hvb : b ≠ v) :
    GoP g L v b 4 ↔ (b : Int) ∈ row g v ∧ nearB g L v b = nearB g L b v := by
  rw [nearB_same hok hv hbl hvL hb (fun e => hvb e.symm)]
  constructor
  · rintro (⟨h, _⟩ | ⟨_, _, h⟩)
    · omega
    · rcases h with ⟨h, _⟩ | ⟨h, _⟩ | ⟨_, h⟩
      · omega
      · omega
      · simpa only [Int.toNat_natCast] using h
  · intro h
    exact .inr ⟨hb, by omega, .inr (.inr ⟨rfl, by simpa only [Int.toNat_natCast] using h⟩)⟩
theorem goP_self {g : List (List Int)} {L : List Int} {v k : Int} (hk : 2 ≤ k) : ¬ GoP g L v v k := by
  rintro (⟨h, _⟩ | ⟨_, h, _⟩)
  · omega
  · exact h rfl

end Go.Proofs.YtiooindlpinjhaaDoor

/- Walks: two vertices made no neighbours; the program's edges. -/
namespace Go.Proofs.YtiooindlpinjhaaDoor
open Go.RowKit

end Go.Proofs.YtiooindlpinjhaaDoor

/- Walk: the program's edges; two vertices made no neighbours. -/
namespace Go.Proofs.YtiooindlpinjhaaDoor
end Go.Proofs.YtiooindlpinjhaaDoor
