/- Walks: comparing, marking and looking at rows of prunes. -/
import Derived.Test.YtilklahopjjhmaaDoorPrQ
import Derived.Test.YtilklahopjjhmaaDoorLawsD
import Derived.Deep.RegionHeld3
import Derived.Deep.DeepCutAuto
namespace Go.Proofs.YtilklahopjjhmaaDoor
open Go.RowKit

def prV (f : Pr) : Value := .agg #[.int .i64 f.V, .int .i64 f.B, .int .i64 f.K]

set_option maxRecDepth 100000 in
theorem eqPrune_b (f : Pr) (w : World) :
    Calls Tryd.prog 32 #[prV f, prV f] w fun e w' => e = .returned (.bool true) ∧ Below w.heap.size w w' := by
  have h1 : (f.V != f.V) = false := by simp
  have h2 : (f.B != f.B) = false := by simp
  have h3 : (f.K != f.K) = false := by simp
  have hb := below_alloc2 w (.cells #[.int .i64 f.V, .int .i64 f.B, .int .i64 f.K] 57) (.cells #[.int .i64 f.V, .int .i64 f.B, .int .i64 f.K] 57)
  unfold prV
  go_enter Tryd.func32, Tryd.ntmps32
  go_wp2
  go_ret
  exact ⟨rfl, hb⟩

set_option maxRecDepth 100000 in
set_option maxHeartbeats 1000000 in
theorem eqPruneS_b (u v : Value) (fs : List Pr) (w : World) (hx : Prs w u fs) (hy : Prs w v fs) :
    Calls Tryd.prog 9 #[u, v] w fun e w' => e = .returned (.bool true) ∧ Below w.heap.size w w' := by
  obtain ⟨p, c, rfl, _, _, hn, _⟩ := id hx.shape
  obtain ⟨p', c', rfl, _, _, _, _⟩ := id hy.shape
  have hl' : ((fs.length : Int) != (fs.length : Int)) = false := by simp
  have HX := Lib.hid hx
  have HY := Lib.hid hy
  clear hx hy
  go_enter Tryd.func9, Tryd.ntmps9
  go_wp2
  go_loopw [5] (fun i wr => ∃ k : Nat, k ≤ fs.length ∧ i = .int .i64 k ∧ Below w.heap.size w wr) (fun i _ => fs.length - (intOf i).toNat)
  case atStart => exact ⟨0, Nat.zero_le _, rfl, Below.refl _ _⟩
  case round =>
    obtain ⟨k, hk, rfl, hb⟩ := hrel
    have HB := Lib.hid hb
    have hx := HX.out.below hb
    have hy := HY.out.below hb
    obtain ⟨_, _, e1, _, _, _, hat⟩ := id hx.shape
    cases e1
    obtain ⟨_, _, e1, _, _, _, hat'⟩ := id hy.shape
    cases e1
    clear hb hx hy
    by_cases hlt : k < fs.length
    · obtain ⟨b, o, rfl, hc1, hc2, hc3⟩ := hat.prune hlt
      obtain ⟨b', o', rfl, hc1', hc2', hc3'⟩ := hat'.prune hlt
      clear hat hat'
      have e0 : (0 : Int) ≤ (k : Int) := by omega
      have e1 : (k : Int) < (fs.length : Int) := by omega
      go_wp2
      go_cut [26] (fun s26 wx => s26 = .bool false ∧ Below wr.heap.size wr wx)
      case first =>
        go_region_held3 (fun W => W.cell? ⟨b, o + k * 3, none⟩ = some (.int .i64 fs[k].V) ∧ W.cell? ⟨b, o + k * 3 + 1, none⟩ = some (.int .i64 fs[k].B) ∧ W.cell? ⟨b, o + k * 3 + 2, none⟩ = some (.int .i64 fs[k].K) ∧ W.cell? ⟨b', o' + k * 3, none⟩ = some (.int .i64 fs[k].V) ∧ W.cell? ⟨b', o' + k * 3 + 1, none⟩ = some (.int .i64 fs[k].B) ∧ W.cell? ⟨b', o' + k * 3 + 2, none⟩ = some (.int .i64 fs[k].K))
          (first | go_keep | exact ⟨hb2'.at' hc1, hb2'.at' hc2, hb2'.at' hc3, hb2'.at' hc1', hb2'.at' hc2', hb2'.at' hc3'⟩)
          ((go_at_call 32; refine (eqPrune_b fs[k] _).mono ?_; rintro e w2 ⟨rfl, hb2⟩; have hb2' : Below wr.heap.size wr w2 := (below_dN (Below.refl _ _) 1).trans hb2))
        all_goals go_wp2
        all_goals go_meet
        all_goals exact ⟨rfl, hb2'⟩
      case rest =>
        obtain ⟨rfl, hbc⟩ := hcut
        go_wp2
        go_roundw
        case rel => exact ⟨k + 1, by omega, by go_num, HB.out.trans (hbc.mono HB.out.size)⟩
        case measure => simp [intOf]; omega
    · obtain rfl : k = fs.length := by omega
      clear hat hat'
      go_wp2
      go_ret
      exact ⟨rfl, HB.out⟩


/-- The marks that a row of n folds bears. -/
def prMarks (k : Int) (n : Nat) : List Value := (marks k (n * 3)).map (Value.int .i64)
theorem prMarks_length (k : Int) (n : Nat) : (prMarks k n).length = n * 3 := by simp [prMarks, marks_length]

set_option maxRecDepth 100000 in
set_option maxHeartbeats 1000000 in
theorem markPruneS_any (v : Value) (n base : Nat) (ys : List Value) (k : Int) (hn : n ≤ 1000000000) (h0 : 0 ≤ k) (h1 : k ≤ 2000000000000000) (w : World) (ho : w.ownsRow base 57 3 v n ys) :
    Calls Tryd.prog 13 #[v, .int .i64 k] w fun e w' => e = .returned (.int .i64 (k + (n : Int) * 3)) ∧
      w'.ownsRow base 57 3 v n (prMarks k n) ∧ w.grownBy w' v.ownBlock ∧ w'.heap.size = w.heap.size := by
  have hyl : ys.length = n * 3 := ho.1
  rcases ho.2 with ⟨rfl, rfl⟩ | ⟨b, cap, cur, rfl, _⟩
  · obtain rfl := List.eq_nil_of_length_eq_zero (by simpa using hyl)
    go_enter Tryd.func13, Tryd.ntmps13
    go_wp2
    refine wp_loop_rounds 1 ?_
    rw [rounds_succ]
    go_wp2
    go_ret
    exact ⟨ret_int (by simp), by simpa [prMarks, marks] using ho, World.grownBy.refl _ _, rfl⟩
  have Hyl := Lib.hid hyl
  clear hyl
  go_enter Tryd.func13, Tryd.ntmps13
  go_wp2
  go_loopw [1, 5] (fun z i wr => ∃ j : Nat, j ≤ n ∧ i = .int .i64 j ∧ z = .int .i64 (k + (j : Int) * 3) ∧ wr.ownsRow base 57 3 (.slice (some ⟨b, 0, none⟩) n cap) n (prMarks k j ++ ys.drop (j * 3)) ∧ w.grownBy wr (some b) ∧ wr.heap.size = w.heap.size)
    (fun _ i _ => n - (intOf i).toNat)
  case atStart => exact ⟨0, Nat.zero_le _, rfl, by simp, by simpa [prMarks, marks] using ho, World.grownBy.refl _ _, rfl⟩
  case round =>
    clear ho
    obtain ⟨j, hj, rfl, rfl, hown, hgr, hsz⟩ := hrel
    have Hsz := Lib.hid hsz
    clear hsz
    by_cases hlt : j < n
    · have hlen : (prMarks k j ++ ys.drop (j * 3)).length = n * 3 := by have := Hyl.out; rw [List.length_append, prMarks_length, List.length_drop]; omega
      have hf := hown.frozenAt (j * 3)
      have hf1 := hown.frozenAt (j * 3 + 1)
      have hf2 := hown.frozenAt (j * 3 + 2)
      have hc := hown.cellAt (j * 3) (by omega)
      have hc1 := hown.cellAt (j * 3 + 1) (by omega)
      have hc2 := hown.cellAt (j * 3 + 2) (by omega)
      obtain ⟨o0, hold0⟩ : ∃ o, (prMarks k j ++ ys.drop (j * 3))[j * 3]? = some o := ⟨_, List.getElem?_eq_getElem (by omega)⟩
      obtain ⟨o1, hold1⟩ : ∃ o, (prMarks k j ++ ys.drop (j * 3))[j * 3 + 1]? = some o := ⟨_, List.getElem?_eq_getElem (by omega)⟩
      obtain ⟨o2, hold2⟩ : ∃ o, (prMarks k j ++ ys.drop (j * 3))[j * 3 + 2]? = some o := ⟨_, List.getElem?_eq_getElem (by omega)⟩
      rw [hold0] at hc
      rw [hold1] at hc1
      rw [hold2] at hc2
      clear hold0 hold1 hold2
      obtain ⟨ho2, hg2⟩ := hown.stored (j * 3) (.int .i64 (k + (j * 3 : Nat)))
      have e1 := set_marks ys (n * 3) (j * 3) k Hyl.out (by omega)
      unfold prMarks at ho2
      rw [e1] at ho2
      obtain ⟨ho3, hg3⟩ := ho2.stored (j * 3 + 1) (.int .i64 (k + (j * 3 + 1 : Nat)))
      have e2 := set_marks ys (n * 3) (j * 3 + 1) k Hyl.out (by omega)
      rw [e2] at ho3
      obtain ⟨ho4, hg4⟩ := ho3.stored (j * 3 + 2) (.int .i64 (k + (j * 3 + 2 : Nat)))
      have e3 := set_marks ys (n * 3) (j * 3 + 2) k Hyl.out (by omega)
      rw [e3] at ho4
      have z1 : k + ((j * 3 + 1 : Nat) : Int) = k + ((j * 3 : Nat) : Int) + 1 := by omega
      have z2 : k + ((j * 3 + 2 : Nat) : Int) = k + ((j * 3 : Nat) : Int) + 1 + 1 := by omega
      have z0 : k + ((j * 3 : Nat) : Int) = k + (j : Int) * 3 := by omega
      have z3 : prMarks k (j + 1) ++ ys.drop ((j + 1) * 3) = (marks k (j * 3 + 2 + 1)).map (Value.int .i64) ++ ys.drop (j * 3 + 2 + 1) := by unfold prMarks; rw [show (j + 1) * 3 = j * 3 + 2 + 1 by omega]
      rw [z1, z2, z0, ← z3] at ho4
      rw [z1, z2, z0] at hg4
      rw [z1, z0] at hg3
      rw [z0] at hg2
      have Ho2 := Lib.hid ho4
      have Hg2 := Lib.hid (grown_trans (grown_trans (grown_trans hgr hg2) hg3) hg4)
      clear ho2 ho3 ho4 hown hg2 hg3 hg4 hgr e1 e2 e3 z0 z1 z2 z3 hlen
      go_wp2
      go_roundw
      case rel => exact ⟨j + 1, by omega, by go_num, val_int (by omega), Ho2.out, Hg2.out, by simpa [World.setCell] using Hsz.out⟩
      case measure => simp [intOf]; omega
    · obtain rfl : j = n := by omega
      go_wp2
      go_ret
      have e := Hyl.out
      rw [List.drop_of_length_le (by omega), List.append_nil] at hown
      exact ⟨rfl, hown, hgr, Hsz.out⟩

set_option maxRecDepth 100000 in
set_option maxHeartbeats 1000000 in
theorem heldPruneS_any (v : Value) (n : Nat) (k : Int) (h0 : 0 ≤ k) (h1 : k ≤ 2000000000000000) (w : World) (hx : Sl w 57 v n (prMarks k n)) :
    Calls Tryd.prog 15 #[v, .int .i64 k] w fun e w' => e = .returned (.int .i64 (k + (n : Int) * 3)) ∧ w = w' := by
  obtain ⟨p, c, rfl, hp, _, hn, hat⟩ := hx
  have Hl := Lib.hid (marks_length k (n * 3))
  unfold prMarks at hat
  clear hp
  go_enter Tryd.func15, Tryd.ntmps15
  go_wp2
  go_loop [1, 5] (fun z i => ∃ j : Nat, j ≤ n ∧ i = .int .i64 j ∧ z = .int .i64 (k + (j : Int) * 3)) (fun _ i => n - (intOf i).toNat)
  case atStart => exact ⟨0, Nat.zero_le _, rfl, by simp⟩
  case round =>
    obtain ⟨j, hj, rfl, rfl⟩ := hrel
    by_cases hlt : j < n
    · obtain ⟨b, o, rfl, hc⟩ := hat.num (k := j * 3) (by have := Hl.out; omega)
      obtain ⟨_, _, hbo, hc1⟩ := hat.num (k := j * 3 + 1) (by have := Hl.out; omega)
      cases hbo
      obtain ⟨_, _, hbo, hc2⟩ := hat.num (k := j * 3 + 2) (by have := Hl.out; omega)
      cases hbo
      have e (i : Nat) (hi : i < (marks k (n * 3)).length) : (marks k (n * 3))[i]'hi = k + i := by simp [marks]
      rw [e] at hc hc1 hc2
      rw [show k + ((j * 3 + 1 : Nat) : Int) = k + (j : Int) * 3 + 1 by omega, ← Nat.add_assoc] at hc1
      rw [show k + ((j * 3 : Nat) : Int) = k + (j : Int) * 3 by omega] at hc
      rw [show k + ((j * 3 + 2 : Nat) : Int) = k + (j : Int) * 3 + 1 + 1 by omega, ← Nat.add_assoc] at hc2
      clear e hat
      go_wp2
      go_round
      case rel => exact ⟨j + 1, by omega, by go_num, val_int (by omega)⟩
      case measure => simp [intOf]; omega
    · obtain rfl : j = n := by omega
      go_wp2
      go_ret
      exact ⟨rfl, rfl⟩

end Go.Proofs.YtilklahopjjhmaaDoor
