/- Walks: marking a graph; what stays apart from it. -/
import Derived.Test.YtiooindlpinjhaaDoorBaQ32
namespace Go.Proofs.YtiooindlpinjhaaDoor
open Go.RowKit

/-- Only blocks from lo on and below hi have turned. -/
structure Apart (lo hi : Nat) (w w' : World) : Prop where
  os : w'.os = w.os
  tape : w'.tape = w.tape
  output : w'.output = w.output
  size : w.heap.size ≤ w'.heap.size
  block : ∀ b, b < w.heap.size → (b < lo ∨ hi ≤ b) → w'.heap[b]? = w.heap[b]?

theorem Apart.refl (lo hi : Nat) (w : World) : Apart lo hi w w := ⟨rfl, rfl, rfl, Nat.le_refl _, fun _ _ _ => rfl⟩
theorem Apart.trans {lo hi : Nat} {a b c : World} (h : Apart lo hi a b) (k : Apart lo hi b c) : Apart lo hi a c :=
  ⟨k.os.trans h.os, k.tape.trans h.tape, k.output.trans h.output, Nat.le_trans h.size k.size, fun i hi hn => (k.block i (Nat.lt_of_lt_of_le hi h.size) hn).trans (h.block i hi hn)⟩
theorem Apart.of_below {lo hi : Nat} {w w' : World} (h : Below w.heap.size w w') : Apart lo hi w w' := ⟨h.os, h.tape, h.output, h.size, fun b hb _ => h.block b hb⟩
theorem Apart.below {lo hi : Nat} {w w' : World} (h : Apart lo hi w w') (hl : lo ≤ w.heap.size) : Below lo w w' := ⟨h.os, h.tape, h.output, h.size, fun b hb => h.block b (by omega) (.inl hb)⟩
theorem Apart.of_grown {lo hi : Nat} {w w' : World} {base : Nat} {E : TypeId} {size n : Nat} {v : Value} {xs : List Value} (ho : w.ownsRow base E size v n xs) (hg : w.grownBy w' v.ownBlock) (h1 : lo ≤ base) (h2 : ∀ k, v.ownBlock = some k → k < hi) : Apart lo hi w w' :=
  ⟨hg.os, hg.tape, hg.output, hg.size, fun b hb hx => hg.block b hb fun e => by
    have h3 := (ho.lt b e.symm).1
    have h4 := h2 b e.symm
    omega⟩

theorem ownsRow_apart_lo {lo hi : Nat} {w w' : World} {base : Nat} {E : TypeId} {size n : Nat} {v : Value} {xs : List Value} (h : w.ownsRow base E size v n xs) (ha : Apart lo hi w w') (hl : ∀ k, v.ownBlock = some k → k < lo) : w'.ownsRow base E size v n xs := by
  refine ⟨h.1, ?_⟩
  rcases h.2 with h2 | ⟨g, cap, cur, h1, h2, h3, h4⟩
  · exact .inl h2
  · exact .inr ⟨g, cap, cur, h1, h2, (ha.block g (Array.getElem?_eq_some_iff.1 h3).1 (.inl (hl g (by rw [h1]; rfl)))).trans h3, h4⟩
theorem ownsRow_apart_hi {lo hi : Nat} {w w' : World} {base : Nat} {E : TypeId} {size n : Nat} {v : Value} {xs : List Value} (h : w.ownsRow base E size v n xs) (ha : Apart lo hi w w') (hl : hi ≤ base) : w'.ownsRow base E size v n xs := by
  refine ⟨h.1, ?_⟩
  rcases h.2 with h2 | ⟨g, cap, cur, h1, h2, h3, h4⟩
  · exact .inl h2
  · exact .inr ⟨g, cap, cur, h1, h2, (ha.block g (Array.getElem?_eq_some_iff.1 h3).1 (.inr (by omega))).trans h3, h4⟩

/-- A row, whatever it holds, behind a write to a row of the same kind. -/
theorem ownsRow_some {w w' : World} {base : Nat} {E : TypeId} {n m : Nat} {v u : Value} {ys zs zs' : List Value} (h : w.ownsRow base E 1 v n ys)
    (ho : w.ownsRow base E 1 u m zs) (ho' : w'.ownsRow base E 1 u m zs') (hg : w.grownBy w' u.ownBlock) : ∃ ys', w'.ownsRow base E 1 v n ys' := by
  rcases h.2 with ⟨rfl, rfl⟩ | ⟨g, cap, cur, rfl, hb, hgg, hnc, hcm, hcs, ht⟩
  · exact ⟨[], World.ownsRow_nil _ _ _ _⟩
  · by_cases e : u.ownBlock = some g
    · rcases ho.2 with ⟨rfl, rfl⟩ | ⟨g1, cap1, cur1, rfl, _, hg1, _, _, hcs1, _⟩
      · simp [Value.ownBlock] at e
      · simp [Value.ownBlock] at e
        subst e
        rcases ho'.2 with ⟨h', _⟩ | ⟨g2, cap2, cur2, h2, hb2, hg2, _, _, hcs2, _⟩
        · simp at h'
        · simp only [Value.slice.injEq, Option.some.injEq, Addr.mk.injEq, and_true, true_and] at h2
          obtain ⟨rfl, rfl⟩ := h2
          rw [hgg] at hg1
          simp only [Option.some.injEq, Obj.cells.injEq] at hg1
          have hcc : cur2.size = cap * 1 := by rw [hcs2, ← hcs1, ← hg1.1, hcs]
          refine ⟨cur2.toList.take (n * 1), by rw [List.length_take, Array.length_toList]; omega, .inr ⟨g1, cap, cur2, rfl, hb, hg2, hnc, hcm, hcc, rfl⟩⟩
    · exact ⟨ys, h.kept hg (.inr (by simp only [Value.ownBlock]; exact fun q => e q.symm))⟩

set_option maxRecDepth 100000 in
set_option maxHeartbeats 1000000 in
theorem markInt64SS_any (v : Value) (g : List (List Int)) (base hi : Nat) (k : Int) (h1 : g.length ≤ 1048576) (h2 : ∀ j, j < g.length → (row g j).length ≤ 1048576) (h0 : 0 ≤ k) (hk1 : k ≤ 1048576) (w : World)
    (vals : List Value) (hvl : vals.length = g.length) (ho : w.ownsRow base 26 1 v g.length vals) (hr : ∀ j, j < g.length → w.ownsRow base 2 1 (vals.getD j undef) (row g j).length ((row g j).map (Value.int .i64)))
    (hhi : ∀ j, j < g.length → ∀ b, (vals.getD j undef).ownBlock = some b → b < hi) :
    Calls Tryd.prog 32 #[v, .int .i64 k] w fun e w' => (∃ z : Int, e = .returned (.int .i64 z) ∧ 0 ≤ z ∧ z ≤ 2000000000000) ∧ Apart base hi w w' := by
  rcases ho.2 with ⟨rfl, hn0⟩ | ⟨b, cap, cur, rfl, _⟩
  · have e0 : ((g.length : Nat) : Int) = 0 := by omega
    go_enter Tryd.func32, Tryd.ntmps32
    go_wp2
    refine wp_loop_rounds 1 ?_
    rw [rounds_succ]
    go_wp2
    go_ret
    exact ⟨⟨k, rfl, h0, by omega⟩, Apart.refl _ _ _⟩
  have Hhi := Lib.hid hhi
  have H2 := Lib.hid h2
  have Hvl := Lib.hid hvl
  have Hr := Lib.hid hr
  have Ho := Lib.hid ho
  clear hhi h2 hvl hr ho
  go_enter Tryd.func32, Tryd.ntmps32
  go_wp2
  go_loopw [1, 5] (fun z i wr => ∃ (j : Nat) (y : Int), j ≤ g.length ∧ i = .int .i64 j ∧ z = .int .i64 y ∧ 0 ≤ y ∧ y ≤ 1048576 + j * 1048576 ∧ Apart base hi w wr ∧
      wr.ownsRow base 26 1 (.slice (some ⟨b, 0, none⟩) g.length cap) g.length vals ∧ (∀ j, j < g.length → ∃ ys, wr.ownsRow base 2 1 (vals.getD j undef) (row g j).length ys))
    (fun _ i _ => g.length - (intOf i).toNat)
  case atStart => exact ⟨0, k, Nat.zero_le _, rfl, rfl, h0, by omega, Apart.refl _ _ _, Ho.out, fun j hj => ⟨_, Hr.out j hj⟩⟩
  case round =>
    obtain ⟨j, y, hj, rfl, rfl, hy0, hy1, hap, hown, hrows⟩ := hrel
    have Hrows := Lib.hid hrows
    clear hrows
    by_cases hlt : j < g.length
    · obtain ⟨ys, hys⟩ := Hrows.out j hlt
      have hl2 := H2.out j hlt
      have hc := hown.cellAt j (by omega)
      obtain ⟨u, hu⟩ : ∃ u, vals[j]? = some u := ⟨_, List.getElem?_eq_getElem (by have := Hvl.out; omega)⟩
      have hud : vals.getD j undef = u := by rw [List.getD_eq_getElem?_getD, hu]; rfl
      rw [hu] at hc
      rw [hud] at hys
      have hub : ∀ b, u.ownBlock = some b → b < hi := by rw [← hud]; exact Hhi.out j hlt
      have Hys := Lib.hid hys
      have Hub := Lib.hid hub
      have Hud := Lib.hid hud
      clear hys hub hud hu
      obtain ⟨m, hm⟩ : ∃ m, m = (row g j).length := ⟨_, rfl⟩
      rw [← hm] at hl2
      have Hm := Lib.hid hm
      clear hm
      go_wp2_with (go_at_call 14; refine (markInt64S_any u m base ys y (by omega) hy0 (by omega) _ (Hm.out ▸ Hys.out)).mono ?_; rintro e w2 ⟨rfl, ho2, hg2, _⟩)
      go_roundw
      case rel =>
        have hys : wr.ownsRow base 2 1 u m ys := Hm.out ▸ Hys.out
        refine ⟨j + 1, _, by omega, by go_num, rfl, by omega, by omega, hap.trans (Apart.of_grown hys hg2 (Nat.le_refl _) Hub.out), ownsRow_other hown hys hg2 (by decide), fun i hi => ?_⟩
        obtain ⟨zs, hzs⟩ := Hrows.out i hi
        exact ownsRow_some hzs hys ho2 hg2
      case measure => simp [intOf]; omega
    · obtain rfl : j = g.length := by omega
      go_wp2
      go_ret
      exact ⟨⟨y, rfl, hy0, by omega⟩, hap⟩

/-- A graph in blocks from lo on and below hi. -/
def InG (w : World) (lo hi : Nat) (v : Value) (g : List (List Int)) : Prop :=
  ∃ u vals, v = .agg #[u] ∧ vals.length = g.length ∧ w.ownsRow lo 26 1 u g.length vals ∧ (∀ b, u.ownBlock = some b → b < hi) ∧
    ∀ j, j < g.length → w.ownsRow lo 2 1 (vals.getD j undef) (row g j).length ((row g j).map (Value.int .i64)) ∧ ∀ b, (vals.getD j undef).ownBlock = some b → b < hi

theorem InG.of_own {w : World} {lo : Nat} {v : Value} {g : List (List Int)} (h : OwnG w lo v g) : InG w lo w.heap.size v g := by
  obtain ⟨u, rfl, vals, h1, h2, h3⟩ := h
  exact ⟨u, vals, rfl, h1, h2, fun b hb => (h2.lt b hb).2, fun j hj => ⟨h3 j hj, fun b hb => ((h3 j hj).lt b hb).2⟩⟩
theorem InG.below {w w' : World} {lo hi : Nat} {v : Value} {g : List (List Int)} (h : InG w lo hi v g) (hb : Below w.heap.size w w') : InG w' lo hi v g := by
  obtain ⟨u, vals, h0, h1, h2, h3, h4⟩ := h
  exact ⟨u, vals, h0, h1, ownsRow_below h2 hb, h3, fun j hj => ⟨ownsRow_below (h4 j hj).1 hb, (h4 j hj).2⟩⟩
theorem InG.own {w : World} {lo hi : Nat} {v : Value} {g : List (List Int)} (h : InG w lo hi v g) : OwnG w lo v g := by
  obtain ⟨u, vals, h0, h1, h2, h3, h4⟩ := h
  exact ⟨u, h0, vals, h1, h2, fun j hj => (h4 j hj).1⟩

set_option maxRecDepth 100000 in
set_option maxHeartbeats 1000000 in
theorem markGraph_any (v : Value) (g : List (List Int)) (base hi : Nat) (k : Int) (h1 : g.length ≤ 1048576) (h2 : ∀ j, j < g.length → (row g j).length ≤ 1048576) (h0 : 0 ≤ k) (hk1 : k ≤ 1048576) (w : World)
    (ho : InG w base hi v g) :
    Calls Tryd.prog 13 #[v, .int .i64 k] w fun e w' => (∃ z : Int, e = .returned (.int .i64 z) ∧ 0 ≤ z ∧ z ≤ 2000000000000) ∧ Apart base hi w w' := by
  have hb1 : ∀ u, Below w.heap.size w (w.alloc (.cells #[u] 28)) := fun u => below_alloc w _
  obtain ⟨u, vals, rfl, hvl, ho1, hub, hr⟩ := ho
  have ho1' := ownsRow_below ho1 (hb1 u)
  have hr' : ∀ j, j < g.length → (w.alloc (.cells #[u] 28)).ownsRow base 2 1 (vals.getD j undef) (row g j).length ((row g j).map (Value.int .i64)) := fun j hj => ownsRow_below (hr j hj).1 (hb1 u)
  have hk := markInt64SS_any u g base hi k h1 h2 h0 hk1 _ vals hvl ho1' hr' (fun j hj => (hr j hj).2)
  have hk' := Lib.hid hk
  have hsh : u = .slice none 0 0 ∨ ∃ b c, u = .slice (some ⟨b, 0, none⟩) g.length c := by
    rcases ho1.2 with ⟨h, _⟩ | ⟨b, c, _, h, _⟩
    · exact .inl h
    · exact .inr ⟨b, c, h⟩
  clear hk hvl ho1 hub hr ho1' hr' h2
  rcases hsh with rfl | ⟨b, c, rfl⟩
  all_goals
    go_enter Tryd.func13, Tryd.ntmps13
    go_wp2_with (go_at_call 32; refine hk'.out.mono ?_; rintro e w2 ⟨⟨z, rfl, hz⟩, hap⟩)
    go_ret
    exact ⟨⟨z, rfl, hz⟩, (Apart.of_below (hb1 _)).trans hap⟩

end Go.Proofs.YtiooindlpinjhaaDoor
