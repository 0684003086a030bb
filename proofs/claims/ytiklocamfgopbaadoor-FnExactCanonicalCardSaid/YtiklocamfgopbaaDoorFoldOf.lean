/- Walks: how the program says that a vertex may be folded, and how it folds it away. -/
import Derived.Test.YtiklocamfgopbaaDoorSeriesN
import Derived.Test.YtiklocamfgopbaaDoorSpecE
namespace Go.Proofs.YtiklocamfgopbaaDoor
open Go.RowKit

theorem and_near {a : List Nat} (ha : ∀ s ∈ a, s < 65536) {v left : Nat} (hv : v < a.length) (hl : left < 65536) : bits BinOp.and IntKind.u32 (a[v] : Int) (left : Int) = ((a.getD v 0 &&& left : Nat) : Int) := by
  have e : a.getD v 0 = a[v] := by simp [hv]
  rw [e]
  exact u32_and_nat _ _ (by have := ha _ (List.getElem_mem hv); omega) (by omega)

theorem nets_cell {w : World} {p : Option Addr} {n c : Nat} {a : List Nat} (h : Sl w 56 (.slice p n c) a.length (a.map u32v)) {v : Nat} (hv : v < a.length) :
    ∃ b o, p = some ⟨b, o, none⟩ ∧ w.cell? ⟨b, o + v, none⟩ = some (.int .u32 (a[v] : Int)) := by
  obtain ⟨p', c', he, _, _, _, hat⟩ := h
  simp only [Value.slice.injEq] at he
  obtain ⟨rfl, rfl, rfl⟩ := he
  obtain ⟨b, o, h1, h2⟩ := hat.cells (k := v) (by simpa using hv)
  exact ⟨b, o, h1, h2 v _ (by simp [hv, u32v])⟩

set_option maxRecDepth 100000 in
set_option maxHeartbeats 4000000 in
theorem foldOf_any (p : Option Addr) (c : Nat) (y z : Int) (a : List Nat) (left v : Nat) (hy : y = left) (hz : z = v) (hv : v < a.length) (h16 : a.length ≤ 16) (ha : ∀ s ∈ a, s < 65536) (hl : left < 65536) (w : World)
    (hx : Sl w 56 (.slice p a.length c) a.length (a.map u32v)) (hT : Tab w) :
    Calls Tryd.prog 86 #[.slice p a.length c, .int .u32 y, .int .i64 z] w fun e w' => Below w.heap.size w w' ∧
      if (nearL a left v).length ≤ 2 then e = .returned (.tuple #[fdVal (atRow v (nearL a left v)), .bool true]) else e = .returned (.tuple #[fdVal ⟨0, 0, 0⟩, .bool false]) := by
  subst hy; subst hz
  obtain ⟨b, o, rfl, hc⟩ := nets_cell hx hv
  have hc1 := (below_alloc w (.cells #[.int .i64 0, .int .i64 0, .int .i64 0] 95)).at' hc
  have hand := Lib.hid (and_near ha hv hl)
  have hn32 : a.getD v 0 &&& left < 4294967296 := Nat.lt_of_le_of_lt Nat.and_le_right (by omega)
  have hT1 := hT.keep (below_alloc w (.cells #[.int .i64 0, .int .i64 0, .int .i64 0] 95))
  have hb1 := Lib.hid (below_alloc w (.cells #[.int .i64 0, .int .i64 0, .int .i64 0] 95))
  have hlen : (nearL a left v).length = (bitsOf (a.getD v 0 &&& left)).length := natInts_length _
  have hlen32 := bitsOf_length (a.getD v 0 &&& left)
  have hnear : natInts (bitsOf (a.getD v 0 &&& left)) = nearL a left v := rfl
  have CALL := Lib.hid (fun (w : World) (hT : Tab w) => list_any _ _ hand.out hn32 w hT)
  simp only [hnear, ← hlen] at CALL hlen32
  have Hlen := Lib.hid hlen
  clear hnear hlen hx hT hc ha
  generalize nearL a left v = r at *
  have NEW := Lib.hid (cell_new3 w (.int .i64 0) (.int .i64 0) (.int .i64 0) 95)
  by_cases h2 : r.length ≤ 2
  case neg =>
    simp only [h2, if_false]
    go_enter Tryd.func86, Tryd.ntmps86
    go_wp2_with (go_at_call 36; refine (CALL.out _ hT1).mono ?_; rintro e w2 ⟨lv, rfl, hown, hb2⟩; have hn2 := Nums.of_owns hown rfl (by omega); obtain ⟨lp, lc, rfl, _, _, _, hat⟩ := hn2.shape; obtain ⟨z0, z1, z2⟩ := NEW.out; have x0 := fun o => (below_alloc w2 o).at' (hb2.at' z0); have x1 := fun o => (below_alloc w2 o).at' (hb2.at' z1); have x2 := fun o => (below_alloc w2 o).at' (hb2.at' z2); have xf : ∀ o i, (w2.alloc o).frozen? ⟨w.heap.size, i, none⟩ = false := fun o i => ((below_alloc w2 o).frozen (p := ⟨w.heap.size, i, none⟩) (by have := hb2.size; rw [size_alloc] at this; show w.heap.size < _; omega)).trans ((hb2.frozen (p := ⟨w.heap.size, i, none⟩) (by rw [size_alloc]; show w.heap.size < _; omega)).trans (frozen_new w _ _ i)); have n1 : w.heap.size ≠ w2.heap.size := (by have := hb2.size; rw [size_alloc] at this; omega); have n2 := Ne.symm n1)
    refine bodyPost_ret (v := .tuple #[.agg #[.int .i64 0, .int .i64 0, .int .i64 0], .bool false]) (by simp [results, Tryd.results86, go_sem, x0, x1, x2]) rfl ⟨?_, rfl⟩
    exact ((hb1.out.trans (hb2.mono hb1.out.size)).alloc (by have := hb2.size; rw [size_alloc] at this; omega) _).trans (set3_below _ _ _ _ (Nat.le_refl _))
  simp only [h2, if_true]
  by_cases h0 : 0 < r.length
  case neg =>
    have e : r = [] := List.eq_nil_of_length_eq_zero (by omega)
    subst e
    go_enter Tryd.func86, Tryd.ntmps86
    go_wp2_with (go_at_call 36; refine (CALL.out _ hT1).mono ?_; rintro e w2 ⟨lv, rfl, hown, hb2⟩; have hn2 := Nums.of_owns hown rfl (by omega); obtain ⟨lp, lc, rfl, _, _, _, hat⟩ := hn2.shape; obtain ⟨z0, z1, z2⟩ := NEW.out; have x0 := fun o => (below_alloc w2 o).at' (hb2.at' z0); have x1 := fun o => (below_alloc w2 o).at' (hb2.at' z1); have x2 := fun o => (below_alloc w2 o).at' (hb2.at' z2); have xf : ∀ o i, (w2.alloc o).frozen? ⟨w.heap.size, i, none⟩ = false := fun o i => ((below_alloc w2 o).frozen (p := ⟨w.heap.size, i, none⟩) (by have := hb2.size; rw [size_alloc] at this; show w.heap.size < _; omega)).trans ((hb2.frozen (p := ⟨w.heap.size, i, none⟩) (by rw [size_alloc]; show w.heap.size < _; omega)).trans (frozen_new w _ _ i)); have n1 : w.heap.size ≠ w2.heap.size := (by have := hb2.size; rw [size_alloc] at this; omega); have n2 := Ne.symm n1)
    refine bodyPost_ret (v := .tuple #[.agg #[.int .i64 v, .int .i64 (-1), .int .i64 (-1)], .bool true]) (by simp [results, Tryd.results86, go_sem, x0, x1, x2]) rfl ⟨?_, rfl⟩
    exact ((hb1.out.trans (hb2.mono hb1.out.size)).alloc (by have := hb2.size; rw [size_alloc] at this; omega) _).trans (set3_below _ _ _ _ (Nat.le_refl _))
  by_cases h1 : 1 < r.length
  · have hf : atRow v r = ⟨v, r[0], r[1]⟩ := by unfold atRow; rw [getD_zero h0, getD_one h1]
    rw [hf]
    clear hf
    go_enter Tryd.func86, Tryd.ntmps86
    go_wp2_with (go_at_call 36; refine (CALL.out _ hT1).mono ?_; rintro e w2 ⟨lv, rfl, hown, hb2⟩; have hn2 := Nums.of_owns hown rfl (by omega); obtain ⟨lp, lc, rfl, _, _, _, hat⟩ := hn2.shape; obtain ⟨z0, z1, z2⟩ := NEW.out; have x0 := fun o => (below_alloc w2 o).at' (hb2.at' z0); have x1 := fun o => (below_alloc w2 o).at' (hb2.at' z1); have x2 := fun o => (below_alloc w2 o).at' (hb2.at' z2); have xf : ∀ o i, (w2.alloc o).frozen? ⟨w.heap.size, i, none⟩ = false := fun o i => ((below_alloc w2 o).frozen (p := ⟨w.heap.size, i, none⟩) (by have := hb2.size; rw [size_alloc] at this; show w.heap.size < _; omega)).trans ((hb2.frozen (p := ⟨w.heap.size, i, none⟩) (by rw [size_alloc]; show w.heap.size < _; omega)).trans (frozen_new w _ _ i)); have n1 : w.heap.size ≠ w2.heap.size := (by have := hb2.size; rw [size_alloc] at this; omega); have n2 := Ne.symm n1; obtain ⟨b3, o3, rfl, hc3⟩ := hat.num h0; rw [Nat.add_zero] at hc3; obtain ⟨_, _, he4, hc4⟩ := hat.num h1; cases he4; have y0 := fun o => (below_alloc w2 o).at' hc3; have y1 := fun o => (below_alloc w2 o).at' hc4; have n3 : b3 < w2.heap.size := World.block_lt_of_cell? _ _ hc3; have n4 : b3 ≠ w2.heap.size := (by omega); have n5 := Ne.symm n4)
    refine bodyPost_ret (v := .tuple #[.agg #[.int .i64 v, .int .i64 r[0], .int .i64 r[1]], .bool true]) (by simp [results, Tryd.results86, go_sem, x0, x1, x2]) rfl ⟨?_, rfl⟩
    exact ((hb1.out.trans (hb2.mono hb1.out.size)).alloc (by have := hb2.size; rw [size_alloc] at this; omega) _).trans (set3_below _ _ _ _ (Nat.le_refl _))
  · have hf : atRow v r = ⟨v, r[0], -1⟩ := by
      unfold atRow
      rw [getD_zero h0, show r.getD 1 (-1) = -1 from by simp [show r.length ≤ 1 by omega]]
    rw [hf]
    clear hf
    go_enter Tryd.func86, Tryd.ntmps86
    go_wp2_with (go_at_call 36; refine (CALL.out _ hT1).mono ?_; rintro e w2 ⟨lv, rfl, hown, hb2⟩; have hn2 := Nums.of_owns hown rfl (by omega); obtain ⟨lp, lc, rfl, _, _, _, hat⟩ := hn2.shape; obtain ⟨z0, z1, z2⟩ := NEW.out; have x0 := fun o => (below_alloc w2 o).at' (hb2.at' z0); have x1 := fun o => (below_alloc w2 o).at' (hb2.at' z1); have x2 := fun o => (below_alloc w2 o).at' (hb2.at' z2); have xf : ∀ o i, (w2.alloc o).frozen? ⟨w.heap.size, i, none⟩ = false := fun o i => ((below_alloc w2 o).frozen (p := ⟨w.heap.size, i, none⟩) (by have := hb2.size; rw [size_alloc] at this; show w.heap.size < _; omega)).trans ((hb2.frozen (p := ⟨w.heap.size, i, none⟩) (by rw [size_alloc]; show w.heap.size < _; omega)).trans (frozen_new w _ _ i)); have n1 : w.heap.size ≠ w2.heap.size := (by have := hb2.size; rw [size_alloc] at this; omega); have n2 := Ne.symm n1; obtain ⟨b3, o3, rfl, hc3⟩ := hat.num h0; rw [Nat.add_zero] at hc3; have y0 := fun o => (below_alloc w2 o).at' hc3; have n3 : b3 < w2.heap.size := World.block_lt_of_cell? _ _ hc3; have n4 : b3 ≠ w2.heap.size := (by omega); have n5 := Ne.symm n4)
    refine bodyPost_ret (v := .tuple #[.agg #[.int .i64 v, .int .i64 r[0], .int .i64 (-1)], .bool true]) (by simp [results, Tryd.results86, go_sem, x0, x1, x2]) rfl ⟨?_, rfl⟩
    exact ((hb1.out.trans (hb2.mono hb1.out.size)).alloc (by have := hb2.size; rw [size_alloc] at this; omega) _).trans (set3_below _ _ _ _ (Nat.le_refl _))

theorem foldOf_yes (p : Option Addr) (c : Nat) (y z : Int) (a : List Nat) (left v : Nat) (hy : y = left) (hz : z = v) (hv : v < a.length) (h16 : a.length ≤ 16) (ha : ∀ s ∈ a, s < 65536) (hl : left < 65536) (w : World)
    (hx : Sl w 56 (.slice p a.length c) a.length (a.map u32v)) (hT : Tab w) (h2 : (nearL a left v).length ≤ 2) (V A B : Int) (hf : (⟨V, A, B⟩ : Fd) = atRow v (nearL a left v)) :
    Calls Tryd.prog 86 #[.slice p a.length c, .int .u32 y, .int .i64 z] w fun e w' => e = .returned (.tuple #[.agg #[.int .i64 V, .int .i64 A, .int .i64 B], .bool true]) ∧ Below w.heap.size w w' :=
  (foldOf_any p c y z a left v hy hz hv h16 ha hl w hx hT).mono fun e w' ⟨h, he⟩ => by
    simp only [h2, if_true] at he
    rw [← hf] at he
    exact ⟨he, h⟩
theorem foldOf_no (p : Option Addr) (c : Nat) (y z : Int) (a : List Nat) (left v : Nat) (hy : y = left) (hz : z = v) (hv : v < a.length) (h16 : a.length ≤ 16) (ha : ∀ s ∈ a, s < 65536) (hl : left < 65536) (w : World)
    (hx : Sl w 56 (.slice p a.length c) a.length (a.map u32v)) (hT : Tab w) (h2 : ¬ (nearL a left v).length ≤ 2) :
    Calls Tryd.prog 86 #[.slice p a.length c, .int .u32 y, .int .i64 z] w fun e w' => e = .returned (.tuple #[.agg #[.int .i64 0, .int .i64 0, .int .i64 0], .bool false]) ∧ Below w.heap.size w w' :=
  (foldOf_any p c y z a left v hy hz hv h16 ha hl w hx hT).mono fun e w' ⟨h, he⟩ => by
    simp only [h2, if_false] at he
    exact ⟨he, h⟩

set_option maxRecDepth 100000 in
set_option maxHeartbeats 4000000 in
theorem foldAway_any (x : Value) (a : List Nat) (f : Fd) (base : Nat) (h16 : a.length ≤ 16) (ha : ∀ s ∈ a, s < 65536) (hf : 0 ≤ f.B → ∃ u v : Nat, f.A = u ∧ f.B = v ∧ u < a.length ∧ v < a.length ∧ u ≠ v) (w : World)
    (ho : w.ownsRow base 56 1 x a.length (a.map u32v)) :
    Calls Tryd.prog 87 #[x, .agg #[.int .i64 f.V, .int .i64 f.A, .int .i64 f.B]] w fun e w' => e = .returned (.tuple #[]) ∧
      w'.ownsRow base 56 1 x (awayL a f).length ((awayL a f).map u32v) ∧ w.grownBy w' x.ownBlock := by
  obtain ⟨V, A, B⟩ := f
  have hbA := below_alloc w (.cells #[.int .i64 V, .int .i64 A, .int .i64 B] 95)
  have HG := Lib.hid (grown_of_below hbA x.ownBlock)
  have HO := Lib.hid (ownsRow_below ho hbA)
  clear hbA
  by_cases hB : 0 ≤ B
  · obtain ⟨u, v, rfl, rfl, hu, hv, huv⟩ := hf hB
    have e : awayL a ⟨V, u, v⟩ = joinL a u v := by
      show (if _ then _ else _) = _
      rw [if_pos hB]; rfl
    rw [e, joinL_length]
    clear e hf
    go_enter Tryd.func87, Tryd.ntmps87
    go_wp2_with (go_at_call 82; refine (join_any x _ _ a u v base rfl rfl hu hv huv h16 ha _ HO.out).mono ?_; rintro e w2 ⟨rfl, hown, hg⟩)
    go_end0
    exact ⟨rfl, hown, grown_trans HG.out hg⟩
  · have e : awayL a ⟨V, A, B⟩ = a := if_neg hB
    rw [e]
    clear e hf
    go_enter Tryd.func87, Tryd.ntmps87
    go_wp2
    go_end0
    exact ⟨rfl, HO.out, HG.out⟩

end Go.Proofs.YtiklocamfgopbaaDoor
