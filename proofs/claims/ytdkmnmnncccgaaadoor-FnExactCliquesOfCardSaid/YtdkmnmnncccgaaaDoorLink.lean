/- Walks: graphs that the reference makes. -/
import Derived.Test.YtdkmnmnncccgaaaDoorInto
import Derived.Test.YtdkmnmnncccgaaaDoorFold
import Derived.Test.YtdkmnmnncccgaaaDoorGraphOk
import Derived.Test.YtdkmnmnncccgaaaDoorCoreP
namespace Go.Proofs.YtdkmnmnncccgaaaDoor
open Go.RowKit

/-- v is a graph whose outer row is the callee's own; its rows are read alone. -/
def SG (w : World) (base : Nat) (v : Value) (g : List (List Int)) : Prop :=
  ∃ u vals, v = .agg #[u] ∧ vals.length = g.length ∧ w.ownsRow base 26 1 u g.length vals ∧ ∀ j, j < g.length → Nums w 2 .i64 (vals.getD j undef) (row g j)
theorem SG.below {w w' : World} {base : Nat} {v : Value} {g : List (List Int)} (h : SG w base v g) (hb : Below w.heap.size w w') : SG w' base v g := by
  obtain ⟨u, vals, h1, h2, h3, h4⟩ := h
  exact ⟨u, vals, h1, h2, ownsRow_below h3 hb, fun j hj => (h4 j hj).below hb⟩
theorem SG.gr {w : World} {base : Nat} {v : Value} {g : List (List Int)} (h : SG w base v g) (hn : g.length ≤ 1000000000) : Gr w v g := by
  obtain ⟨u, vals, rfl, h2, h3, h4⟩ := h
  exact ⟨u, rfl, Rws.of_owned vals h2 h3 hn h4⟩
theorem SG.shape {w : World} {base : Nat} {v : Value} {g : List (List Int)} (h : SG w base v g) : ∃ p c, v = .agg #[.slice p g.length c] := by
  obtain ⟨u, vals, rfl, h2, h3, h4⟩ := h
  rcases h3.2 with ⟨rfl, h0⟩ | ⟨b, c, _, rfl, _⟩
  · exact ⟨none, 0, by rw [h0]⟩
  · exact ⟨_, _, rfl⟩

/-- Two boxes of a graph: the result's, and the one that grows. -/
theorem two_boxes (w : World) : ∃ W, W = (w.alloc (.cells #[.slice none 0 0] 29)).alloc (.cells #[.slice none 0 0] 29) ∧ Below w.heap.size w W ∧ W.heap.size = w.heap.size + 2 ∧
    Box W w.heap.size 29 (.slice none 0 0) ∧ Box W (w.heap.size + 1) 29 (.slice none 0 0) := by
  refine ⟨_, rfl, below_alloc2 _ _ _, by rw [size_alloc, size_alloc], (Box.new w _ _).alloc _, ?_⟩
  have := Box.new (w.alloc (.cells #[.slice none 0 0] 29)) (.slice none 0 0) 29
  rw [size_alloc] at this
  exact this

/-- What a round leaves that puts a row behind the others. -/
theorem box_step {w wr wc w7 : World} {k b7 c8 : Nat} {ov x rv : Value} {vals : List Value}
    (hbel : Below w.heap.size w wr) (hsz : w.heap.size + 2 ≤ wr.heap.size) (hbc : Below wr.heap.size wr wc)
    (hb2 : Box wr w.heap.size 29 x) (hb3 : Box wr (w.heap.size + 1) 29 ov) (hown : wr.ownsRow (w.heap.size + 2) 26 1 ov k vals)
    (hown7 : w7.ownsRow (w.heap.size + 2) 26 1 (.slice (some ⟨b7, 0, none⟩) (k + 1) c8) (k + 1) (vals ++ [rv])) (hg7 : wc.grownBy w7 ov.ownBlock) :
    ∃ W, W = w7.setCell ⟨w.heap.size + 1, 0, none⟩ (.slice (some ⟨b7, 0, none⟩) (k + 1) c8) ∧
      Below w.heap.size w W ∧ w.heap.size + 2 ≤ W.heap.size ∧ Box W w.heap.size 29 x ∧ Box W (w.heap.size + 1) 29 (.slice (some ⟨b7, 0, none⟩) (k + 1) c8) ∧ W.ownsRow (w.heap.size + 2) 26 1 (.slice (some ⟨b7, 0, none⟩) (k + 1) c8) (k + 1) (vals ++ [rv]) ∧
      (∀ base size n v (xs : List Value), wc.ownsRow base 2 size v n xs → W.ownsRow base 2 size v n xs) := by
  have hownc := ownsRow_below hown hbc
  have hszc := hbc.size
  have hsz7 := hg7.size
  have hb7 : Below (w.heap.size + 2) wc w7 := below_grown (Below.refl _ _) hownc hg7 (Nat.le_refl _) (by omega)
  have hb37 : Box w7 (w.heap.size + 1) 29 ov := (hb3.keep hbc).below hb7 (by omega)
  have hb9 : Below (w.heap.size + 1) w7 (w7.setCell ⟨w.heap.size + 1, 0, none⟩ (.slice (some ⟨b7, 0, none⟩) (k + 1) c8)) := (Below.refl _ _).setCell (by show w.heap.size + 1 ≤ w.heap.size + 1; omega) _
  have hall : Below (w.heap.size + 1) wr (w7.setCell ⟨w.heap.size + 1, 0, none⟩ (.slice (some ⟨b7, 0, none⟩) (k + 1) c8)) := ((hbc.mono (by omega)).trans (hb7.mono (by omega))).trans hb9
  refine ⟨_, rfl, hbel.trans (hall.mono (by omega)), by have := hall.size; omega, hb2.below hall (by omega), hb37.set _, ownsRow_setBox hown7 hb37 (by decide) _, fun base size n v xs h => ?_⟩
  exact ownsRow_setBox (ownsRow_other h hownc hg7 (by decide)) hb37 (by decide) _

end Go.Proofs.YtdkmnmnncccgaaaDoor
