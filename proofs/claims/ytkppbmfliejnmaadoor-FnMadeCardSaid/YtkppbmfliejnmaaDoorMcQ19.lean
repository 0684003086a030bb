/- The state of the program's search of the least code: what the blocks hold, and what each step makes of them. Plain: the completions of an order, child by child. -/
import Derived.Test.YtkppbmfliejnmaaDoorMcQ18
import Derived.Test.YtkppbmfliejnmaaDoorMcQ15
import Derived.Test.YtkppbmfliejnmaaDoorMcQ8
namespace Go.Proofs.YtkppbmfliejnmaaDoor
open Go.RowKit

theorem comp_ord {n : Nat} {E : Nat → Nat → Bool} : ∀ (m k : Nat) (p : PrC), OrdK n k p → p.2.length = codeL k → ∀ r ∈ compP n E m p, OrdK n (k + m) r ∧ r.2.length = codeL (k + m)
  | 0, k, p, h1, h2, r, hr => by
    have : r = p := by simpa [compP] using hr
    subst this
    exact ⟨h1, h2⟩
  | m + 1, k, p, h1, h2, r, hr => by
    obtain ⟨q, hq, hr⟩ := List.mem_flatMap.1 hr
    obtain ⟨v, hv, rfl⟩ := List.mem_map.1 hq
    obtain ⟨h3, h4⟩ := mem_freeV.1 hv
    have := comp_ord m (k + 1) _ (h1.step E h3 h4) (step_code E h1.len h2) r hr
    rwa [show k + 1 + m = k + (m + 1) by omega] at this
/-- A whole order with its code. -/
def BQ (n : Nat) (q : PrC) : Prop := OrdK n n q ∧ q.2.length = codeL n
theorem fold_bq {n : Nat} : ∀ (V : List PrC) (b : Option PrC), (∀ p ∈ V, BQ n p) → (∀ q, b = some q → BQ n q) → ∀ q, V.foldl better b = some q → BQ n q
  | [], _, _, hb, q, h => hb q h
  | p :: V, b, hV, hb, q, h => by
    refine fold_bq V (better b p) (fun r hr => hV r (by simp [hr])) (fun r hr => ?_) q h
    cases b with
    | none => cases hr; exact hV p (by simp)
    | some q0 =>
      unfold better at hr
      by_cases k : lexL p.2 q0.2
      · simp only [if_pos k] at hr; cases hr; exact hV p (by simp)
      · simp only [if_neg k] at hr; cases hr; exact hb _ rfl
theorem codeL_le {k n : Nat} (h : k ≤ n) : codeL k ≤ codeL n := by
  induction n with
  | zero => obtain rfl : k = 0 := by omega
            exact Nat.le_refl _
  | succ n ih =>
    by_cases e : k = n + 1
    · subst e; exact Nat.le_refl _
    · have := ih (by omega)
      show codeL k ≤ codeL n + n
      omega
theorem codeL_8 {k : Nat} (h : k ≤ 8) : codeL k ≤ 28 := codeL_le h
theorem codeL_pos {n : Nat} (h : 2 ≤ n) : 1 ≤ codeL n := codeL_le h

/-- The completions over the children below v. -/
def kidsTo (n : Nat) (E : Nat → Nat → Bool) (m : Nat) (p : PrC) (v : Nat) : List PrC := (((List.range v).filter fun u => decide (u ∉ p.1)).map (stepP E p)).flatMap (compP n E m)
theorem kidsTo_no {n : Nat} {E : Nat → Nat → Bool} {m : Nat} {p : PrC} {v : Nat} (h : v ∈ p.1) : kidsTo n E m p (v + 1) = kidsTo n E m p v := by simp [kidsTo, List.range_succ, h]
theorem kidsTo_yes {n : Nat} {E : Nat → Nat → Bool} {m : Nat} {p : PrC} {v : Nat} (h : v ∉ p.1) : kidsTo n E m p (v + 1) = kidsTo n E m p v ++ compP n E m (stepP E p v) := by simp [kidsTo, List.range_succ, h]
theorem kidsTo_end (n : Nat) (E : Nat → Nat → Bool) (m : Nat) (p : PrC) : kidsTo n E m p n = compP n E (m + 1) p := rfl
theorem kidsTo_bq {n : Nat} {E : Nat → Nat → Bool} {m : Nat} {p : PrC} {v : Nat} (hv : v ≤ n) (h1 : OrdK n p.1.length p) (h2 : p.2.length = codeL p.1.length) (hm : p.1.length + (m + 1) = n) : ∀ r ∈ kidsTo n E m p v, BQ n r := by
  intro r hr
  obtain ⟨q, hq, hr⟩ := List.mem_flatMap.1 hr
  obtain ⟨u, hu, rfl⟩ := List.mem_map.1 hq
  obtain ⟨h3, h4⟩ := List.mem_filter.1 hu
  have h5 := List.mem_range.1 h3
  have := comp_ord (E := E) m (p.1.length + 1) _ (h1.step E (v := u) (by omega) (of_decide_eq_true h4)) (step_code E h1.len h2) r hr
  rw [show p.1.length + 1 + m = n by omega] at this
  exact this

theorem mask_app (o : List Nat) (v : Nat) : mask (natInts (o ++ [v])) = mask (natInts o) ||| 2 ^ v := by rw [natInts_snoc, mask_snoc]; rfl
theorem bit_natMask (o : List Nat) (v : Nat) : (mask (natInts o)).testBit v = decide (v ∈ o) := by
  rw [testBit_mask]
  by_cases h : v ∈ o
  · rw [decide_eq_true h, List.any_eq_true]
    exact ⟨(v : Int), mem_natInts.2 ⟨v, h, rfl⟩, by simp⟩
  · rw [decide_eq_false h, List.any_eq_false]
    intro x hx e
    obtain ⟨y, hy, rfl⟩ := mem_natInts.1 hx
    have : y = v := by simpa using e
    exact h (this ▸ hy)
theorem mask_nat16 {o : List Nat} (h : ∀ u ∈ o, u < 16) : mask (natInts o) < 65536 := by
  refine mask_lt16 _ fun x hx => ?_
  obtain ⟨y, hy, rfl⟩ := mem_natInts.1 hx
  have := h y hy
  omega
theorem mask_back {o : List Nat} {v : Nat} (h : ∀ u ∈ o, u < 16) (hv : v < 16) (hn : v ∉ o) : sub (mask (natInts o) ||| 2 ^ v) (2 ^ v) = mask (natInts o) := by
  have h1 := mask_nat16 h
  have h2 := pow_lt32 v (by omega)
  refine Nat.eq_of_testBit_eq fun j => ?_
  rw [testBit_sub _ _ (or_lt32 _ _ (by omega) h2) h2, Nat.testBit_or, testBit_pow]
  by_cases e : v = j
  · subst e
    rw [bit_natMask]; simp [hn]
  · simp [e]

/-! ### Rows that are owned -/
theorem ownsRow_far {w : World} {base : Nat} {E : TypeId} {size n : Nat} {v : Value} {xs : List Value} (h : w.ownsRow base E size v n xs) {b i : Nat} (hb : b < base) (u : Value) : (w.setCell ⟨b, i, none⟩ u).ownsRow base E size v n xs :=
  ownsRow_setCell_other h (a := ⟨b, i, none⟩) (fun e => by have := (h.lt b e).1; omega) u
theorem ownsRow_to {w w' : World} {base : Nat} {E : TypeId} {size n : Nat} {v : Value} {xs : List Value} (h : w.ownsRow base E size v n xs) (hk : ∀ k, v.ownBlock = some k → w'.heap[k]? = w.heap[k]?) : w'.ownsRow base E size v n xs := by
  refine ⟨h.1, ?_⟩
  rcases h.2 with h2 | ⟨g, cap, cur, rfl, h2, h3, h4⟩
  · exact .inl h2
  · exact .inr ⟨g, cap, cur, rfl, h2, (hk g rfl).trans h3, h4⟩
theorem ownsRow_cut {w : World} {base : Nat} {E : TypeId} {n c k : Nat} {p : Option Addr} {xs : List Value} (h : w.ownsRow base E 1 (.slice p n c) n xs) (hk : k ≤ n) : w.ownsRow base E 1 (.slice p k c) k (xs.take k) := by
  have hl := h.1
  refine ⟨by rw [List.length_take]; omega, ?_⟩
  rcases h.2 with ⟨h2, h0⟩ | ⟨g, cap, cur, hv, h2, h3, h4, h5, h6, h7⟩
  · simp only [Value.slice.injEq] at h2
    exact .inl ⟨by rw [h2.1, h2.2.2, show k = 0 by omega], by omega⟩
  · simp only [Value.slice.injEq] at hv
    obtain ⟨rfl, _, rfl⟩ := hv
    exact .inr ⟨g, c, cur, rfl, h2, h3, by omega, h5, h6, by rw [← h7, List.take_take, Nat.mul_one, Nat.mul_one, Nat.min_eq_left hk]⟩
theorem owns_capL {w : World} {base : Nat} {E : TypeId} {size n : Nat} {v : Value} {xs : List Value} (h : w.ownsRow base E size v n xs) : ∃ p c, v = .slice p n c ∧ n ≤ c := by
  rcases h.2 with ⟨rfl, rfl⟩ | ⟨g, cap, cur, rfl, _, _, h4, _⟩
  · exact ⟨_, _, rfl, Nat.le_refl _⟩
  · exact ⟨_, _, rfl, h4⟩
theorem owns_some {w : World} {base : Nat} {E : TypeId} {size n : Nat} {v : Value} {xs : List Value} (h : w.ownsRow base E size v n xs) (hn : 0 < n) : ∃ g c, v = .slice (some ⟨g, 0, none⟩) n c ∧ n ≤ c := by
  rcases h.2 with ⟨rfl, rfl⟩ | ⟨g, cap, cur, rfl, _, _, h4, _⟩
  · omega
  · exact ⟨_, _, rfl, h4⟩

/-! ### The block of the search -/
structure CS (w : World) (xb : Nat) (v0 v1 v2 v3 v4 v5 : Value) : Prop where
  blk : w.heap[xb]? = some (.cells #[v0, v1, v2, v3, v4, v5] 106 (0, 0))
section
variable {w w' : World} {xb : Nat} {v0 v1 v2 v3 v4 v5 : Value}
theorem CS.c0 (h : CS w xb v0 v1 v2 v3 v4 v5) : w.cell? ⟨xb, 0, none⟩ = some v0 := by unfold World.cell?; rw [h.blk]; rfl
theorem CS.c1 (h : CS w xb v0 v1 v2 v3 v4 v5) : w.cell? ⟨xb, 1, none⟩ = some v1 := by unfold World.cell?; rw [h.blk]; rfl
theorem CS.c2 (h : CS w xb v0 v1 v2 v3 v4 v5) : w.cell? ⟨xb, 2, none⟩ = some v2 := by unfold World.cell?; rw [h.blk]; rfl
theorem CS.c3 (h : CS w xb v0 v1 v2 v3 v4 v5) : w.cell? ⟨xb, 3, none⟩ = some v3 := by unfold World.cell?; rw [h.blk]; rfl
theorem CS.c4 (h : CS w xb v0 v1 v2 v3 v4 v5) : w.cell? ⟨xb, 4, none⟩ = some v4 := by unfold World.cell?; rw [h.blk]; rfl
theorem CS.c5 (h : CS w xb v0 v1 v2 v3 v4 v5) : w.cell? ⟨xb, 5, none⟩ = some v5 := by unfold World.cell?; rw [h.blk]; rfl
theorem CS.free (h : CS w xb v0 v1 v2 v3 v4 v5) (i : Nat) : w.frozen? ⟨xb, i, none⟩ = false := by simp [World.frozen?, h.blk]
theorem CS.lt (h : CS w xb v0 v1 v2 v3 v4 v5) : xb < w.heap.size := lt_of_block h.blk
theorem CS.to (h : CS w xb v0 v1 v2 v3 v4 v5) (hk : w'.heap[xb]? = w.heap[xb]?) : CS w' xb v0 v1 v2 v3 v4 v5 := ⟨hk.trans h.blk⟩
theorem CS.new (w : World) : CS (w.alloc (.cells #[v0, v1, v2, v3, v4, v5] 106)) w.heap.size v0 v1 v2 v3 v4 v5 := ⟨heap_alloc_new w _⟩
theorem CS.s1 (h : CS w xb v0 v1 v2 v3 v4 v5) (u : Value) : CS (w.setCell ⟨xb, 1, none⟩ u) xb v0 u v2 v3 v4 v5 := ⟨by have := heap_setCell_same w xb 1 _ _ u h.blk; simpa using this⟩
theorem CS.s2 (h : CS w xb v0 v1 v2 v3 v4 v5) (u : Value) : CS (w.setCell ⟨xb, 2, none⟩ u) xb v0 v1 u v3 v4 v5 := ⟨by have := heap_setCell_same w xb 2 _ _ u h.blk; simpa using this⟩
theorem CS.s3 (h : CS w xb v0 v1 v2 v3 v4 v5) (u : Value) : CS (w.setCell ⟨xb, 3, none⟩ u) xb v0 v1 v2 u v4 v5 := ⟨by have := heap_setCell_same w xb 3 _ _ u h.blk; simpa using this⟩
theorem CS.s4 (h : CS w xb v0 v1 v2 v3 v4 v5) (u : Value) : CS (w.setCell ⟨xb, 4, none⟩ u) xb v0 v1 v2 v3 u v5 := ⟨by have := heap_setCell_same w xb 4 _ _ u h.blk; simpa using this⟩
theorem CS.s5 (h : CS w xb v0 v1 v2 v3 v4 v5) (u : Value) : CS (w.setCell ⟨xb, 5, none⟩ u) xb v0 v1 v2 v3 v4 u := ⟨by have := heap_setCell_same w xb 5 _ _ u h.blk; simpa using this⟩
end

/-- How the best order so far lies in memory. -/
def BestW (w : World) (B : Nat) (b : Option PrC) (ov cv bv fv : Value) : Prop :=
  match b with
  | none => bv = .slice none 0 0
  | some q => w.ownsRow B 2 1 bv q.2.length ((natInts q.2).map (Value.int .i64)) ∧ w.ownsRow B 3 1 fv q.1.length ((natInts q.1).map (Value.int .i64)) ∧
      (∀ k, bv.ownBlock = some k → cv.ownBlock ≠ some k) ∧ (∀ k, fv.ownBlock = some k → ov.ownBlock ≠ some k)
theorem BestW.next {w w' : World} {B : Nat} {b : Option PrC} {ov cv bv fv : Value} (h : BestW w B b ov cv bv fv) (hb : Below w.heap.size w w') : BestW w' B b ov cv bv fv := by
  cases b with
  | none => exact h
  | some q => exact ⟨ownsRow_below h.1 hb, ownsRow_below h.2.1 hb, h.2.2⟩

/-- The search as it stands at a call: an order, its code, the best so far. -/
structure CI (w1 : World) (xb : Nat) (av : Value) (w : World) (o : List Nat) (us : Nat) (code : List Nat) (b : Option PrC) (ov cv bv fv : Value) : Prop where
  eqx : xb = w1.heap.size
  bel : Below xb w1 w
  cs : CS w xb av ov (.int .u32 (us : Int)) cv bv fv
  ord : w.ownsRow (xb + 1) 3 1 ov o.length ((natInts o).map (Value.int .i64))
  cod : w.ownsRow (xb + 1) 2 1 cv code.length ((natInts code).map (Value.int .i64))
  bst : BestW w (xb + 1) b ov cv bv fv
section
variable {w1 w : World} {xb : Nat} {av : Value} {o : List Nat} {us : Nat} {code : List Nat} {b : Option PrC} {ov cv bv fv : Value}
theorem CI.next (h : CI w1 xb av w o us code b ov cv bv fv) {w' : World} (hb : Below w.heap.size w w') : CI w1 xb av w' o us code b ov cv bv fv :=
  ⟨h.eqx, h.bel.trans (hb.mono (Nat.le_of_lt h.cs.lt)), h.cs.to (hb.block xb h.cs.lt), ownsRow_below h.ord hb, ownsRow_below h.cod hb, h.bst.next hb⟩
theorem CI.nets {n : Nat} {vals : List Value} {E : TypeId} {sv : Value} (h : CI w1 xb av w o us code b ov cv bv fv) (hN : Sl w1 E sv n vals) : Sl w E sv n vals :=
  Sl.below hN (h.eqx ▸ h.bel)

theorem CI.bitMore (h : CI w1 xb av w o us code b ov cv bv fv) {x : Nat} {w' : World} {b' c' : Nat}
    (ho : w'.ownsRow (xb + 1) 2 1 (.slice (some ⟨b', 0, none⟩) (code.length + 1) c') (code.length + 1) ((natInts code).map (Value.int .i64) ++ [.int .i64 (x : Int)]))
    (hg : w.grownBy w' cv.ownBlock) (hf : cv.ownBlock = some b' ∨ w.heap.size < b') :
    CI w1 xb av (w'.setCell ⟨xb, 3, none⟩ (.slice (some ⟨b', 0, none⟩) (code.length + 1) c')) o us (code ++ [x]) b ov (.slice (some ⟨b', 0, none⟩) (code.length + 1) c') bv fv where
  eqx := h.eqx
  bel := (below_grown h.bel h.cod hg (Nat.le_succ _) (Nat.le_of_lt h.cs.lt)).setCell (p := ⟨xb, 3, none⟩) (Nat.le_refl _) _
  cs := (h.cs.to (hg.block xb h.cs.lt fun e => by have := (h.cod.lt xb e.symm).1; omega)).s3 _
  ord := ownsRow_far (ownsRow_other h.ord h.cod hg (by decide)) (Nat.lt_succ_self _) _
  cod := by
    rw [natInts_snoc, List.map_append, List.length_append]
    exact ownsRow_far ho (Nat.lt_succ_self _) _
  bst := by
    have hb := h.bst
    cases b with
    | none => exact hb
    | some q =>
      obtain ⟨h1, h2, a1, a2⟩ := hb
      refine ⟨ownsRow_far (ownsRow_to h1 fun k e => hg.block k (h1.lt k e).2 fun c => a1 k e c.symm) (Nat.lt_succ_self _) _, ownsRow_far (ownsRow_other h2 h.cod hg (by decide)) (Nat.lt_succ_self _) _, fun k e c => ?_, a2⟩
      have c : b' = k := by simpa [Value.ownBlock] using c
      subst c
      rcases hf with hf | hf
      · exact a1 _ e hf
      · have := (h1.lt _ e).2
        omega

/-- A vertex more. -/
theorem CI.order (h : CI w1 xb av w o us code b ov cv bv fv) {x us' : Nat} {w' : World} {b' c' : Nat}
    (ho : w'.ownsRow (xb + 1) 3 1 (.slice (some ⟨b', 0, none⟩) (o.length + 1) c') (o.length + 1) ((natInts o).map (Value.int .i64) ++ [.int .i64 (x : Int)]))
    (hg : w.grownBy w' ov.ownBlock) (hf : ov.ownBlock = some b' ∨ w.heap.size < b') :
    CI w1 xb av ((w'.setCell ⟨xb, 1, none⟩ (.slice (some ⟨b', 0, none⟩) (o.length + 1) c')).setCell ⟨xb, 2, none⟩ (.int .u32 (us' : Int))) (o ++ [x]) us' code b (.slice (some ⟨b', 0, none⟩) (o.length + 1) c') cv bv fv where
  eqx := h.eqx
  bel := ((below_grown h.bel h.ord hg (Nat.le_succ _) (Nat.le_of_lt h.cs.lt)).setCell (p := ⟨xb, 1, none⟩) (Nat.le_refl _) _).setCell (p := ⟨xb, 2, none⟩) (Nat.le_refl _) _
  cs := ((h.cs.to (hg.block xb h.cs.lt fun e => by have := (h.ord.lt xb e.symm).1; omega)).s1 _).s2 _
  cod := ownsRow_far (ownsRow_far (ownsRow_other h.cod h.ord hg (by decide)) (Nat.lt_succ_self _) _) (Nat.lt_succ_self _) _
  ord := by
    rw [natInts_snoc, List.map_append, List.length_append]
    exact ownsRow_far (ownsRow_far ho (Nat.lt_succ_self _) _) (Nat.lt_succ_self _) _
  bst := by
    have hb := h.bst
    cases b with
    | none => exact hb
    | some q =>
      obtain ⟨h1, h2, a1, a2⟩ := hb
      refine ⟨ownsRow_far (ownsRow_far (ownsRow_other h1 h.ord hg (by decide)) (Nat.lt_succ_self _) _) (Nat.lt_succ_self _) _,
        ownsRow_far (ownsRow_far (ownsRow_to h2 fun k e => hg.block k (h2.lt k e).2 fun c => a2 k e c.symm) (Nat.lt_succ_self _) _) (Nat.lt_succ_self _) _, a1, fun k e c => ?_⟩
      have c : b' = k := by simpa [Value.ownBlock] using c
      subst c
      rcases hf with hf | hf
      · exact a2 _ e hf
      · have := (h2.lt _ e).2
        omega

/-- Back by a vertex. -/
theorem CI.cut {op cp : Option Addr} {oc cc : Nat} (h : CI w1 xb av w o us code b (.slice op o.length oc) (.slice cp code.length cc) bv fv) {i j : Nat} (hi : i ≤ o.length) (hj : j ≤ code.length) (us' : Nat) :
    CI w1 xb av (((w.setCell ⟨xb, 1, none⟩ (.slice op i oc)).setCell ⟨xb, 2, none⟩ (.int .u32 (us' : Int))).setCell ⟨xb, 3, none⟩ (.slice cp j cc)) (o.take i) us' (code.take j) b (.slice op i oc) (.slice cp j cc) bv fv where
  eqx := h.eqx
  bel := ((h.bel.setCell (p := ⟨xb, 1, none⟩) (Nat.le_refl _) _).setCell (p := ⟨xb, 2, none⟩) (Nat.le_refl _) _).setCell (p := ⟨xb, 3, none⟩) (Nat.le_refl _) _
  cs := ((h.cs.s1 _).s2 _).s3 _
  ord := by
    have := ownsRow_cut h.ord hi
    rw [← List.map_take] at this
    rw [List.length_take, Nat.min_eq_left hi, natInts, List.map_take]
    exact ownsRow_far (ownsRow_far (ownsRow_far this (Nat.lt_succ_self _) _) (Nat.lt_succ_self _) _) (Nat.lt_succ_self _) _
  cod := by
    have := ownsRow_cut h.cod hj
    rw [← List.map_take] at this
    rw [List.length_take, Nat.min_eq_left hj, natInts, List.map_take]
    exact ownsRow_far (ownsRow_far (ownsRow_far this (Nat.lt_succ_self _) _) (Nat.lt_succ_self _) _) (Nat.lt_succ_self _) _
  bst := by
    have hb := h.bst
    cases b with
    | none => exact hb
    | some q =>
      obtain ⟨h1, h2, a1, a2⟩ := hb
      have own : ∀ (p : Option Addr) (n m c : Nat), (Value.slice p n c).ownBlock = (Value.slice p m c).ownBlock := fun p n m c => by cases p <;> rfl
      exact ⟨ownsRow_far (ownsRow_far (ownsRow_far h1 (Nat.lt_succ_self _) _) (Nat.lt_succ_self _) _) (Nat.lt_succ_self _) _,
        ownsRow_far (ownsRow_far (ownsRow_far h2 (Nat.lt_succ_self _) _) (Nat.lt_succ_self _) _) (Nat.lt_succ_self _) _, fun k e => by rw [own cp j code.length cc]; exact a1 k e, fun k e => by rw [own op i o.length oc]; exact a2 k e⟩

/-- A better order is copied. -/
theorem CI.best (h : CI w1 xb av w o us code b ov cv bv fv) {w' : World} {bn fn : Value} (hb : Below w.heap.size w w')
    (h1 : w'.ownsRow w.heap.size 2 1 bn code.length ((natInts code).map (Value.int .i64))) (h2 : w'.ownsRow w.heap.size 3 1 fn o.length ((natInts o).map (Value.int .i64))) :
    CI w1 xb av ((w'.setCell ⟨xb, 4, none⟩ bn).setCell ⟨xb, 5, none⟩ fn) o us code (some (o, code)) ov cv bn fn where
  eqx := h.eqx
  bel := ((h.next hb).bel.setCell (p := ⟨xb, 4, none⟩) (Nat.le_refl _) _).setCell (p := ⟨xb, 5, none⟩) (Nat.le_refl _) _
  cs := ((h.next hb).cs.s4 _).s5 _
  ord := ownsRow_far (ownsRow_far (h.next hb).ord (Nat.lt_succ_self _) _) (Nat.lt_succ_self _) _
  cod := ownsRow_far (ownsRow_far (h.next hb).cod (Nat.lt_succ_self _) _) (Nat.lt_succ_self _) _
  bst := by
    have hlt := h.cs.lt
    refine ⟨ownsRow_far (ownsRow_far (ownsRow_base h1 hlt) (Nat.lt_succ_self _) _) (Nat.lt_succ_self _) _, ownsRow_far (ownsRow_far (ownsRow_base h2 hlt) (Nat.lt_succ_self _) _) (Nat.lt_succ_self _) _, fun k e c => ?_, fun k e c => ?_⟩
    · have := (h1.lt k e).1
      have := (h.cod.lt k c).2
      omega
    · have := (h2.lt k e).1
      have := (h.ord.lt k c).2
      omega
end
end Go.Proofs.YtkppbmfliejnmaaDoor

/- The state of the program's search of a map that fits: what its blocks hold, and what each step makes of them. -/
namespace Go.Proofs.YtkppbmfliejnmaaDoor
open Go.RowKit

/-- The block of the search. -/
structure FS (w : World) (xb : Nat) (v0 v1 v2 v3 v4 : Value) : Prop where
  blk : w.heap[xb]? = some (.cells #[v0, v1, v2, v3, v4] 150 (0, 0))
section
variable {w w' : World} {xb : Nat} {v0 v1 v2 v3 v4 : Value}
theorem FS.c0 (h : FS w xb v0 v1 v2 v3 v4) : w.cell? ⟨xb, 0, none⟩ = some v0 := by unfold World.cell?; rw [h.blk]; rfl
theorem FS.c1 (h : FS w xb v0 v1 v2 v3 v4) : w.cell? ⟨xb, 1, none⟩ = some v1 := by unfold World.cell?; rw [h.blk]; rfl
theorem FS.c2 (h : FS w xb v0 v1 v2 v3 v4) : w.cell? ⟨xb, 2, none⟩ = some v2 := by unfold World.cell?; rw [h.blk]; rfl
theorem FS.c3 (h : FS w xb v0 v1 v2 v3 v4) : w.cell? ⟨xb, 3, none⟩ = some v3 := by unfold World.cell?; rw [h.blk]; rfl
theorem FS.c4 (h : FS w xb v0 v1 v2 v3 v4) : w.cell? ⟨xb, 4, none⟩ = some v4 := by unfold World.cell?; rw [h.blk]; rfl
theorem FS.free (h : FS w xb v0 v1 v2 v3 v4) (i : Nat) : w.frozen? ⟨xb, i, none⟩ = false := by simp [World.frozen?, h.blk]
theorem FS.lt (h : FS w xb v0 v1 v2 v3 v4) : xb < w.heap.size := lt_of_block h.blk
theorem FS.to (h : FS w xb v0 v1 v2 v3 v4) (hk : w'.heap[xb]? = w.heap[xb]?) : FS w' xb v0 v1 v2 v3 v4 := ⟨hk.trans h.blk⟩
theorem FS.new (w : World) : FS (w.alloc (.cells #[v0, v1, v2, v3, v4] 150)) w.heap.size v0 v1 v2 v3 v4 := ⟨heap_alloc_new w _⟩
theorem FS.s2 (h : FS w xb v0 v1 v2 v3 v4) (u : Value) : FS (w.setCell ⟨xb, 2, none⟩ u) xb v0 v1 u v3 v4 := ⟨by have := heap_setCell_same w xb 2 _ _ u h.blk; simpa using this⟩
theorem FS.s3 (h : FS w xb v0 v1 v2 v3 v4) (u : Value) : FS (w.setCell ⟨xb, 3, none⟩ u) xb v0 v1 v2 u v4 := ⟨by have := heap_setCell_same w xb 3 _ _ u h.blk; simpa using this⟩
end

/-- What has been found. -/
def FndV (w : World) (fb : Nat) (o : Option (List Nat)) (fv : Value) : Prop :=
  match o with
  | none => fv = .slice none 0 0
  | some l => w.ownsRow (fb + 2) 3 1 fv l.length ((natInts l).map (Value.int .i64))
theorem FndV.next {w w' : World} {fb : Nat} {o : Option (List Nat)} {fv : Value} (h : FndV w fb o fv) (hb : Below w.heap.size w w') : FndV w' fb o fv := by
  cases o with
  | none => exact h
  | some l => exact ownsRow_below h hb
theorem FndV.far {w : World} {fb b i : Nat} {o : Option (List Nat)} {fv : Value} (h : FndV w fb o fv) (hb : b < fb + 2) (u : Value) : FndV (w.setCell ⟨b, i, none⟩ u) fb o fv := by
  cases o with
  | none => exact h
  | some l => exact ownsRow_far h hb u

/-- The search as it stands: the map so far, what has been found. The box of what is found is the first block behind w1, the search's block the second. -/
structure FiI (w1 w : World) (hv pv : Value) (pre : List Nat) (us : Nat) (ov : Value) (o : Option (List Nat)) (fv : Value) : Prop where
  bel : Below w1.heap.size w1 w
  cs : FS w (w1.heap.size + 1) hv pv ov (.int .u32 (us : Int)) (.func (.func 195) #[] #[.pointer (some ⟨w1.heap.size, 0, none⟩)])
  ord : w.ownsRow (w1.heap.size + 2) 3 1 ov pre.length ((natInts pre).map (Value.int .i64))
  box : Box w w1.heap.size 93 fv
  fnd : FndV w w1.heap.size o fv
section
variable {w1 w w' : World} {hv pv ov fv : Value} {pre : List Nat} {us : Nat} {o : Option (List Nat)}
theorem FiI.next (h : FiI w1 w hv pv pre us ov o fv) (hb : Below w.heap.size w w') : FiI w1 w' hv pv pre us ov o fv :=
  ⟨h.bel.trans (hb.mono h.bel.size), h.cs.to (hb.block _ h.cs.lt), ownsRow_below h.ord hb, h.box.keep hb, h.fnd.next hb⟩
/-- A vertex more. -/
theorem FiI.push (h : FiI w1 w hv pv pre us ov none fv) {x us' b' c' : Nat}
    (ho : w'.ownsRow (w1.heap.size + 2) 3 1 (.slice (some ⟨b', 0, none⟩) (pre.length + 1) c') (pre.length + 1) ((natInts pre).map (Value.int .i64) ++ [.int .i64 (x : Int)]))
    (hg : w.grownBy w' ov.ownBlock) :
    FiI w1 ((w'.setCell ⟨w1.heap.size + 1, 2, none⟩ (.slice (some ⟨b', 0, none⟩) (pre.length + 1) c')).setCell ⟨w1.heap.size + 1, 3, none⟩ (.int .u32 (us' : Int))) hv pv (pre ++ [x]) us' (.slice (some ⟨b', 0, none⟩) (pre.length + 1) c') none fv where
  bel := ((below_grown h.bel h.ord hg (by omega) h.bel.size).setCell (p := ⟨w1.heap.size + 1, 2, none⟩) (Nat.le_succ _) _).setCell (p := ⟨w1.heap.size + 1, 3, none⟩) (Nat.le_succ _) _
  cs := ((h.cs.to (hg.block _ h.cs.lt fun e => by have := (h.ord.lt _ e.symm).1; omega)).s2 _).s3 _
  ord := by
    rw [natInts_snoc, List.map_append, List.length_append]
    exact ownsRow_far (ownsRow_far ho (Nat.lt_succ_self _) _) (Nat.lt_succ_self _) _
  box := ((h.box.grown hg (fun e => by have := (h.ord.lt _ e.symm).1; omega)).setOther (by simp) _).setOther (by simp) _
  fnd := h.fnd
/-- Back by a vertex. -/
theorem FiI.cut {op : Option Addr} {oc : Nat} (h : FiI w1 w hv pv pre us (.slice op pre.length oc) o fv) {i : Nat} (hi : i ≤ pre.length) (us' : Nat) :
    FiI w1 ((w.setCell ⟨w1.heap.size + 1, 2, none⟩ (.slice op i oc)).setCell ⟨w1.heap.size + 1, 3, none⟩ (.int .u32 (us' : Int))) hv pv (pre.take i) us' (.slice op i oc) o fv where
  bel := (h.bel.setCell (p := ⟨w1.heap.size + 1, 2, none⟩) (Nat.le_succ _) _).setCell (p := ⟨w1.heap.size + 1, 3, none⟩) (Nat.le_succ _) _
  cs := (h.cs.s2 _).s3 _
  ord := by
    have := ownsRow_cut h.ord hi
    rw [← List.map_take] at this
    rw [List.length_take, Nat.min_eq_left hi, natInts, List.map_take]
    exact ownsRow_far (ownsRow_far this (Nat.lt_succ_self _) _) (Nat.lt_succ_self _) _
  box := (h.box.setOther (by simp) _).setOther (by simp) _
  fnd := (h.fnd.far (Nat.lt_succ_self _) _).far (Nat.lt_succ_self _) _
end

end Go.Proofs.YtkppbmfliejnmaaDoor
