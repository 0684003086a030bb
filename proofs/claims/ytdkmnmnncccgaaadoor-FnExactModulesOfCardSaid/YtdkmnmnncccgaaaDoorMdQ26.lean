/- Rows of prunes: what a slice of them reads as. -/
import Derived.Test.YtdkmnmnncccgaaaDoorMdQ20
import Derived.Test.YtdkmnmnncccgaaaDoorMdQ3
namespace Go.Proofs.YtdkmnmnncccgaaaDoor
open Go.RowKit

theorem ty_prunes : SlTy Tryd.prog 42 67 (.agg #[.int .i64 0, .int .i64 0, .int .i64 0]) 3 24 := ⟨Tryd.underlying42, by kernel_rfl, rfl, by decide, by decide⟩

/-- The cells of some prunes. -/
def prCells (l : List Pr) : List Value := l.flatMap fun f => [.int .i64 f.V, .int .i64 f.B, .int .i64 f.K]
theorem prCells_snoc (l : List Pr) (f : Pr) : prCells (l ++ [f]) = prCells l ++ [.int .i64 f.V, .int .i64 f.B, .int .i64 f.K] := by simp [prCells]
theorem prCells_length (l : List Pr) : (prCells l).length = l.length * 3 := by
  induction l with
  | nil => rfl
  | cons f l ih => simp only [prCells, List.flatMap_cons, List.length_append, List.length_cons, List.length_nil] at ih ⊢; omega


/-- v reads as the prunes fs. -/
def Prs (w : World) (v : Value) (fs : List Pr) : Prop := Sl w 67 v fs.length (prCells fs)
theorem prCells_get (fs : List Pr) : ∀ {k : Nat} (hk : k < fs.length), (prCells fs)[k * 3]? = some (.int .i64 fs[k].V) ∧ (prCells fs)[k * 3 + 1]? = some (.int .i64 fs[k].B) ∧ (prCells fs)[k * 3 + 2]? = some (.int .i64 fs[k].K) := by
  induction fs with
  | nil => intro k hk; simp at hk
  | cons f fs ih =>
    intro k hk
    have e : prCells (f :: fs) = .int .i64 f.V :: .int .i64 f.B :: .int .i64 f.K :: prCells fs := rfl
    rw [e]
    cases k with
    | zero => exact ⟨rfl, rfl, rfl⟩
    | succ k =>
      obtain ⟨h1, h2, h3⟩ := ih (k := k) (by simpa using hk)
      rw [show (k + 1) * 3 = k * 3 + 1 + 1 + 1 by omega, show k * 3 + 1 + 1 + 1 + 1 = k * 3 + 1 + 1 + 1 + 1 from rfl, show k * 3 + 1 + 1 + 1 + 2 = k * 3 + 2 + 1 + 1 + 1 by omega]
      simp only [List.getElem?_cons_succ, List.getElem_cons_succ]
      exact ⟨h1, h2, h3⟩
theorem Prs.of_owns {w : World} {base : Nat} {v : Value} {fs : List Pr} (h : w.ownsRow base 67 3 v fs.length (prCells fs)) (hn : fs.length ≤ 1000) : Prs w v fs := Sl.of_owns h (by omega)
theorem Prs.below {w w' : World} {v : Value} {fs : List Pr} (h : Prs w v fs) (hb : Below w.heap.size w w') : Prs w' v fs := Sl.below h hb
theorem Prs.shape {w : World} {v : Value} {fs : List Pr} (h : Prs w v fs) : ∃ p c, v = .slice p fs.length c ∧ (p = none → fs.length = 0 ∧ c = 0) ∧ fs.length ≤ c ∧ fs.length ≤ 1000000000 ∧ At w 67 p (prCells fs) := h
theorem At.prune {w : World} {p : Option Addr} {fs : List Pr} (h : At w 67 p (prCells fs)) {k : Nat} (hk : k < fs.length) :
    ∃ b o, p = some ⟨b, o, none⟩ ∧ w.cell? ⟨b, o + k * 3, none⟩ = some (.int .i64 fs[k].V) ∧ w.cell? ⟨b, o + k * 3 + 1, none⟩ = some (.int .i64 fs[k].B) ∧ w.cell? ⟨b, o + k * 3 + 2, none⟩ = some (.int .i64 fs[k].K) := by
  obtain ⟨b, o, h1, h2⟩ := h.cells (k := k) (by rw [prCells_length]; omega)
  obtain ⟨e1, e2, e3⟩ := prCells_get fs hk
  exact ⟨b, o, h1, h2 _ _ e1, by rw [Nat.add_assoc]; exact h2 _ _ e2, by rw [Nat.add_assoc]; exact h2 _ _ e3⟩


end Go.Proofs.YtdkmnmnncccgaaaDoor
