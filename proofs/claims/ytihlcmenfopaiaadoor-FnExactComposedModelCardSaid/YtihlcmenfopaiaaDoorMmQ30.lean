/- Walk: the reference's model of a model. -/
import Derived.Test.YtihlcmenfopaiaaDoorMmQ25
import Derived.Test.YtihlcmenfopaiaaDoorMmQ15
import Derived.Test.YtihlcmenfopaiaaDoorMmQ29
namespace Go.Proofs.YtihlcmenfopaiaaDoor
open Go.RowKit

/-- A union that grows: of the sets of some indices, and of a part of one more. -/
structure UnI (n : Nat) (M : List (List Int)) (L P S : List Int) : Prop where
  set : SetIn n S
  mem : ∀ x, x ∈ S ↔ (∃ j ∈ L, x ∈ row M j.toNat) ∨ x ∈ P
theorem UnI.start (n : Nat) (M : List (List Int)) : UnI n M [] [] [] := ⟨setIn_nil _, fun x => by simp⟩
theorem setIn_into {n : Int} {s : List Int} (h : SetIn n s) {v : Int} (h0 : 0 ≤ v) (hn : v < n) : SetIn n (intoL s v) :=
  ⟨fun x hx => by
    rcases mem_intoL.1 hx with h1 | rfl
    · exact h.1 x h1
    · exact ⟨h0, hn⟩, intoL_rising h.2⟩
theorem UnI.put {n : Nat} {M : List (List Int)} {L P S : List Int} {y : Int} (h : UnI n M L P S) (h0 : 0 ≤ y) (hn : y < n) : UnI n M L (P ++ [y]) (intoL S y) := by
  refine ⟨setIn_into h.set h0 hn, fun x => ?_⟩
  rw [mem_intoL, h.mem, List.mem_append, List.mem_singleton, or_assoc]
theorem UnI.next {n : Nat} {M : List (List Int)} {L S : List Int} {j : Int} (h : UnI n M L (row M j.toNat) S) : UnI n M (L ++ [j]) [] S := by
  refine ⟨h.set, fun x => ?_⟩
  rw [h.mem]
  constructor
  · rintro (⟨k, h1, h2⟩ | h1)
    · exact .inl ⟨k, List.mem_append_left _ h1, h2⟩
    · exact .inl ⟨j, by simp, h1⟩
  · rintro (⟨k, h1, h2⟩ | h1)
    · rcases List.mem_append.1 h1 with h3 | h3
      · exact .inl ⟨k, h3, h2⟩
      · obtain rfl : k = j := by simpa using h3
        exact .inr h2
    · simp at h1
theorem UnI.len {n : Nat} {M : List (List Int)} {L P S : List Int} (h : UnI n M L P S) (hn : n ≤ 16) : S.length ≤ 16 := by
  have := setIn_length (by omega) h.set
  omega

/-- The sets so far. -/
def CmpTo (n : Nat) (M W R : List (List Int)) (k : Nat) : Prop := R.length = k ∧ ∀ i, i < k → UnI n M (row W i) [] (row R i)
theorem CmpTo.snoc {n : Nat} {M W R : List (List Int)} {k : Nat} {S : List Int} (h : CmpTo n M W R k) (hS : UnI n M (row W k) [] S) : CmpTo n M W (R ++ [S]) (k + 1) := by
  refine ⟨by simp [h.1], fun i hi => ?_⟩
  by_cases e : i < k
  · have e2 : row (R ++ [S]) i = row R i := by simp [row, List.getElem?_append_left (show i < R.length by rw [h.1]; exact e)]
    rw [e2]; exact h.2 i e
  · obtain rfl : i = k := by omega
    have e2 : row (R ++ [S]) i = S := by rw [← h.1]; simp [row]
    rw [e2]; exact hS
theorem CmpTo.all {n : Nat} {M W R : List (List Int)} (h : CmpTo n M W R W.length) : CmpS M W R := ⟨h.1, fun i hi => ⟨(h.2 i hi).set.2, fun x => by rw [(h.2 i hi).mem]; simp⟩⟩
theorem CmpTo.row_le {n : Nat} {M W R : List (List Int)} (h : CmpTo n M W R W.length) (hn : n ≤ 16) (j : Nat) : (row R j).length ≤ 16 := by
  by_cases e : j < W.length
  · exact (h.2 j e).len hn
  · have : row R j = [] := by simp [row, List.getElem?_eq_none (show R.length ≤ j by rw [h.1]; omega)]
    rw [this]; exact Nat.zero_le _

theorem SG.setM {w : World} {base b : Nat} {v x : Value} {g : List (List Int)} (h : SG w base v g) (hb : Box w b 41 x) (u : Value) : SG (w.setCell ⟨b, 0, none⟩ u) base v g := by
  obtain ⟨u', vals, h1, h2, h3, h4⟩ := h
  exact ⟨u', vals, h1, h2, ownsRow_setBox h3 hb (by decide) u, fun j hj => (h4 j hj).setBox hb (by decide) u⟩
theorem SG.baseM {w : World} {base base' : Nat} {v : Value} {g : List (List Int)} (h : SG w base v g) (hb : base' ≤ base) : SG w base' v g := by
  obtain ⟨u', vals, e, h2, h3, h4⟩ := h
  exact ⟨u', vals, e, h2, ownsRow_base h3 hb, h4⟩

/-- The model that grows in its box. -/
structure CmI (W0 wr : World) (B : Nat) (ov : Value) (R : List (List Int)) : Prop where
  bel : Below W0.heap.size W0 wr
  box : Box wr B 41 ov
  sg : SG wr (B + 1) (.agg #[ov]) R
  lo : W0.heap.size ≤ B
theorem CmI.next {W0 wr w' : World} {B : Nat} {ov : Value} {R : List (List Int)} (h : CmI W0 wr B ov R) (hb : Below wr.heap.size wr w') : CmI W0 w' B ov R :=
  ⟨h.bel.trans (hb.mono h.bel.size), h.box.keep hb, h.sg.below hb, h.lo⟩
theorem CmI.start {W0 w : World} (hb : Below W0.heap.size W0 w) : CmI W0 (w.alloc (.cells #[.slice none 0 0] 41)) w.heap.size (.slice none 0 0) [] :=
  ⟨hb.alloc hb.size _, Box.new _ _ _, ⟨_, [], rfl, rfl, World.ownsRow_nil _ _ _ _, fun j hj => by simp at hj⟩, hb.size⟩
theorem CmI.shape {W0 wr : World} {B : Nat} {ov : Value} {R : List (List Int)} (h : CmI W0 wr B ov R) : ∃ p c, ov = .slice p R.length c := by
  obtain ⟨p, c, e⟩ := h.sg.shape
  cases e
  exact ⟨p, c, rfl⟩
theorem CmI.vals {W0 wr : World} {B : Nat} {ov : Value} {R : List (List Int)} (h : CmI W0 wr B ov R) : ∃ vals : List Value, vals.length = R.length ∧ wr.ownsRow (B + 1) 27 1 ov R.length vals ∧ ∀ j, j < R.length → Nums wr 2 .i64 (vals.getD j undef) (row R j) := by
  obtain ⟨u, vals, e, h1, h2, h3⟩ := h.sg
  cases e
  exact ⟨vals, h1, h2, h3⟩
theorem CmI.grown {W0 wr w7 : World} {B : Nat} {ov : Value} {R : List (List Int)} {vals : List Value} (h : CmI W0 wr B ov R) (ho : wr.ownsRow (B + 1) 27 1 ov R.length vals) (hg : wr.grownBy w7 ov.ownBlock) : Below (B + 1) wr w7 ∧ Box w7 B 41 ov := by
  have hlt := h.box.lt
  have hb7 : Below (B + 1) wr w7 := below_grown (Below.refl _ _) ho hg (Nat.le_refl _) hlt
  exact ⟨hb7, h.box.below hb7 (Nat.lt_succ_self _)⟩
theorem CmI.put {W0 wr w7 : World} {B : Nat} {ov ov' rv : Value} {R : List (List Int)} {S : List Int} {vals : List Value} (h : CmI W0 wr B ov R) (hl : vals.length = R.length) (ho : wr.ownsRow (B + 1) 27 1 ov R.length vals) (hr : ∀ j, j < R.length → Nums wr 2 .i64 (vals.getD j undef) (row R j))
    (ho' : w7.ownsRow (B + 1) 27 1 ov' (R.length + 1) (vals ++ [rv])) (hg : wr.grownBy w7 ov.ownBlock) (hn : Nums wr 2 .i64 rv S) : CmI W0 (w7.setCell ⟨B, 0, none⟩ ov') B ov' (R ++ [S]) := by
  obtain ⟨hb7, hbx⟩ := h.grown ho hg
  have hlo := h.lo
  refine ⟨(h.bel.trans (hb7.mono (by omega))).setCell (by show W0.heap.size ≤ B; exact hlo) _, hbx.set _, ?_, hlo⟩
  exact (SG.snocS hl ho hr ho' hg hn).setM hbx _

theorem six_boxesM (w : World) (a b c d e f : Value) (T1 T2 T3 T4 T5 T6 : TypeId) : ∃ W, W = (((((w.alloc (.cells #[a] T1)).alloc (.cells #[b] T2)).alloc (.cells #[c] T3)).alloc (.cells #[d] T4)).alloc (.cells #[e] T5)).alloc (.cells #[f] T6) ∧ Below w.heap.size w W ∧ W.heap.size = w.heap.size + 6 ∧
    Box W w.heap.size T1 a ∧ Box W (w.heap.size + 1) T2 b ∧ Box W (w.heap.size + 2) T3 c ∧ Box W (w.heap.size + 3) T4 d ∧ Box W (w.heap.size + 4) T5 e ∧ Box W (w.heap.size + 5) T6 f := by
  obtain ⟨W1, h1, k1, k2, k3, k4, k5⟩ := three_boxesM w a b c T1 T2 T3
  obtain ⟨W2, h2, l1, l2, l3, l4, l5⟩ := three_boxesM W1 d e f T4 T5 T6
  rw [k2] at l1 l2 l3 l4 l5
  have l1' : Below W1.heap.size W1 W2 := by rw [k2]; exact l1
  exact ⟨W2, by rw [h2, h1], k1.trans (l1.mono (by omega)), by omega, k3.keep l1', k4.keep l1', k5.keep l1', l3, l4, l5⟩

end Go.Proofs.YtihlcmenfopaiaaDoor
