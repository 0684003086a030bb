/- Walks: the program's graph of some vertices; a graph made of masks. -/
import Derived.Test.YtdkmnmnncccgaaaDoorMdQ15
import Derived.Test.YtdkmnmnncccgaaaDoorMdQ16
import Derived.Deep.RegionLaw
namespace Go.Proofs.YtdkmnmnncccgaaaDoor
open Go.RowKit

theorem step_app1s {P : Program} {T E : TypeId} {z : Value} {bytes : Nat} (S : SlTy P T E z 1 bytes) {w : World} {ops : Array Oper} {o : Oper} {a : Act} {K : Act → World → Prop} {Q : Exit → Act → World → Prop} {F : Prop}
    (hgd : o.guard = none) {s x : Operand} (ho : o.op = .call { callee := .builtin .append, args := #[s, x], argTypes := #[T, T] })
    {base : Nat} {v : Value} {n : Nat} {xs : List Value} {el : Value} (hs : a.eval s = v) (hown : w.ownsRow base E 1 v n xs)
    (hx : a.eval x = .slice (some ⟨w.heap.size, 0, none⟩) 1 1) (h1 : el.oneCell' = true)
    (hnm : n < 1000000000) (hbase : base ≤ w.heap.size)
    (h : ∀ b c w', w'.ownsRow base E 1 (.slice (some ⟨b, 0, none⟩) (n + 1) c) (n + 1) (xs ++ [el]) → w.grownBy w' v.ownBlock → K (a.put o.dst (.slice (some ⟨b, 0, none⟩) (n + 1) c)) w') :
    if Region.wanted o (yielded ops a.tmps) = true then Oper.wp P o a (w.alloc (.cells #[el] E)) K Q else F := by
  have hw : Region.wanted o (yielded ops a.tmps) = true := by simp [Region.wanted, hgd]
  rw [if_pos hw]
  have hal : (w.alloc (.cells #[el] E)).heap.size = w.heap.size + 1 := by show (w.heap.push _).size = _; simp
  have hu : Sl (w.alloc (.cells #[el] E)) E (.slice (some ⟨w.heap.size, 0, none⟩) 1 1) 1 [el] := by
    refine ⟨_, 1, rfl, (fun e => by cases e), Nat.le_refl _, by omega, Or.inr ⟨w.heap.size, 0, #[el], (0, 0), rfl, heap_alloc_new w _, ?_⟩⟩
    intro j u hu
    match j, hu with
    | 0, hu => simpa using hu
    | j + 1, hu => simp at hu
  obtain ⟨v', w', hr, h2, h3, h4⟩ := run_app S (w.alloc (.cells #[el] E)) o.type base v n xs (hown.alloc _) _ 1 [el] hu (by simp) (by simpa using h1) (by omega) (by omega)
  unfold Oper.wp execOp
  simp only [ho, resolve, invoke, builtin, Sem.run_bind, Sem.run_pure, Result.andThen_ok, List.map_toArray, List.map_cons, List.map_nil, hs, hx, hr]
  rcases id h2.2 with ⟨_, h0⟩ | ⟨g, cap, cur, rfl, _⟩
  · omega
  · exact h g cap w' h2 ⟨h3.os, h3.tape, h3.output, by have := h3.size; omega, fun k hk hne => (h3.block k (by omega) hne).trans (Below.heap_alloc w _ k hk)⟩

end Go.Proofs.YtdkmnmnncccgaaaDoor

/- Walk: a graph made of masks. -/
namespace Go.Proofs.YtdkmnmnncccgaaaDoor
open Go.RowKit

/-- The first k rows are the callee's own, each in a block of its own. -/
structure Dis (w : World) (base k : Nat) (vals : List Value) (g : List (List Int)) : Prop where
  rows : ∀ j, j < k → w.ownsRow base 2 1 (vals.getD j undef) (row g j).length ((row g j).map (Value.int .i64))
  dis : ∀ i j, i < k → j < k → i ≠ j → ∀ b, (vals.getD i undef).ownBlock = some b → (vals.getD j undef).ownBlock ≠ some b
def DG (w : World) (base : Nat) (v : Value) (g : List (List Int)) : Prop :=
  ∃ u vals, v = .agg #[u] ∧ vals.length = g.length ∧ w.ownsRow base 26 1 u g.length vals ∧ Dis w base g.length vals g

theorem DG.below {w w' : World} {base : Nat} {v : Value} {g : List (List Int)} (h : DG w base v g) (hb : Below w.heap.size w w') : DG w' base v g := by
  obtain ⟨u, vals, h1, h2, h3, h4⟩ := h
  exact ⟨u, vals, h1, h2, ownsRow_below h3 hb, ⟨fun j hj => ownsRow_below (h4.rows j hj) hb, h4.dis⟩⟩
theorem DG.gr {w : World} {base : Nat} {v : Value} {g : List (List Int)} (h : DG w base v g) (hn : g.length ≤ 1000000000) (hr : ∀ j, j < g.length → (row g j).length ≤ 1000000000) : Gr w v g := by
  obtain ⟨u, vals, rfl, h2, h3, h4⟩ := h
  exact ⟨u, rfl, Rws.of_owned vals h2 h3 hn fun j hj => Nums.of_owns (h4.rows j hj) rfl (hr j hj)⟩
theorem DG.shape {w : World} {base : Nat} {v : Value} {g : List (List Int)} (h : DG w base v g) : ∃ p c, v = .agg #[.slice p g.length c] := by
  obtain ⟨u, vals, rfl, h2, h3, h4⟩ := h
  rcases h3.2 with ⟨rfl, h0⟩ | ⟨b, c, _, rfl, _⟩
  · exact ⟨none, 0, by rw [h0]⟩
  · exact ⟨_, _, rfl⟩
theorem DG.base {w : World} {base base' : Nat} {v : Value} {g : List (List Int)} (h : DG w base v g) (hb : base' ≤ base) : DG w base' v g := by
  obtain ⟨u, vals, h1, h2, h3, h4⟩ := h
  exact ⟨u, vals, h1, h2, ownsRow_base h3 hb, ⟨fun j hj => ownsRow_base (h4.rows j hj) hb, h4.dis⟩⟩
theorem DG.setBox {w : World} {base b : Nat} {v x : Value} {g : List (List Int)} (h : DG w base v g) (hb : Box w b 29 x) (u : Value) : DG (w.setCell ⟨b, 0, none⟩ u) base v g := by
  obtain ⟨u0, vals, h1, h2, h3, h4⟩ := h
  exact ⟨u0, vals, h1, h2, ownsRow_setBox h3 hb (by decide) _, ⟨fun j hj => ownsRow_setBox (h4.rows j hj) hb (by decide) _, h4.dis⟩⟩

/-- The masks' rows. -/
def rowsOf (a : List Nat) : List (List Int) := a.map fun s => natInts (bitsOf s)
theorem rowsOf_length (a : List Nat) : (rowsOf a).length = a.length := by simp [rowsOf]
theorem row_rowsOf {a : List Nat} {j : Nat} (h : j < a.length) : row (rowsOf a) j = natInts (bitsOf a[j]) := by simp [row, rowsOf, h]
theorem rowsOf_indN {m : Nat} (hm : m ≤ 16) (E : Nat → Nat → Bool) : rowsOf (indN m E) = matG m E := by
  refine graph_ext (by rw [rowsOf_length, indN_length, matG_length]) fun j hj => ?_
  rw [rowsOf_length, indN_length] at hj
  rw [row_rowsOf (by rw [indN_length]; exact hj), ← indN_rows hm hj]
  have : (indN m E).getD j 0 = (indN m E)[j]'(by rw [indN_length]; exact hj) := by simp [indN_length, hj]
  rw [this]

theorem Dis.snoc {w W : World} {base k : Nat} {vals : List Value} {g : List (List Int)} {rv : Value} (h : Dis w base k vals g) (hl : vals.length = k)
    (hk : ∀ base size n v (xs : List Value), w.ownsRow base 2 size v n xs → W.ownsRow base 2 size v n xs)
    {B : Nat} (hB : base ≤ B) (hold : ∀ j, j < k → ∀ b, (vals.getD j undef).ownBlock = some b → b < B)
    (hn : w.ownsRow B 2 1 rv (row g k).length ((row g k).map (Value.int .i64))) : Dis W base (k + 1) (vals ++ [rv]) g := by
  have e1 : ∀ j, j < k → (vals ++ [rv]).getD j undef = vals.getD j undef := fun j hj => getD_append_left _ _ _ _ (by omega)
  have e2 : (vals ++ [rv]).getD k undef = rv := by rw [← hl]; exact getD_append_last _ _ _
  refine ⟨fun j hj => ?_, fun i j hi hj hne b hb => ?_⟩
  · by_cases e : j = k
    · subst e; rw [e2]; exact hk _ _ _ _ _ (ownsRow_base hn hB)
    · rw [e1 j (by omega)]; exact hk _ _ _ _ _ (h.rows j (by omega))
  · by_cases ei : i = k
    · subst ei
      rw [e2] at hb
      rw [e1 j (by omega)]
      intro hc
      have := hold j (by omega) b hc
      have := (hn.lt b hb).1
      omega
    · rw [e1 i (by omega)] at hb
      by_cases ej : j = k
      · subst ej
        rw [e2]
        intro hc
        have := hold i (by omega) b hb
        have := (hn.lt b hc).1
        omega
      · rw [e1 j (by omega)]
        exact h.dis i j (by omega) (by omega) hne b hb

end Go.Proofs.YtdkmnmnncccgaaaDoor
