/- Walks: the reference's TwoOrder. -/
import Derived.Test.YtiklocamfgopbaaDoorSpecD
namespace Go.Proofs.YtiklocamfgopbaaDoor
open Go.RowKit

/-- v reads as the folds fs. -/
def Fds (w : World) (v : Value) (fs : List Fd) : Prop := Sl w 95 v fs.length (fdCells fs)
theorem fdCells_get (fs : List Fd) : ∀ {k : Nat} (hk : k < fs.length), (fdCells fs)[k * 3]? = some (.int .i64 fs[k].V) ∧ (fdCells fs)[k * 3 + 1]? = some (.int .i64 fs[k].A) ∧ (fdCells fs)[k * 3 + 2]? = some (.int .i64 fs[k].B) := by
  induction fs with
  | nil => intro k hk; simp at hk
  | cons f fs ih =>
    intro k hk
    have e : fdCells (f :: fs) = .int .i64 f.V :: .int .i64 f.A :: .int .i64 f.B :: fdCells fs := rfl
    rw [e]
    cases k with
    | zero => exact ⟨rfl, rfl, rfl⟩
    | succ k =>
      obtain ⟨h1, h2, h3⟩ := ih (k := k) (by simpa using hk)
      rw [show (k + 1) * 3 = k * 3 + 1 + 1 + 1 by omega, show k * 3 + 1 + 1 + 1 + 1 = k * 3 + 1 + 1 + 1 + 1 from rfl, show k * 3 + 1 + 1 + 1 + 2 = k * 3 + 2 + 1 + 1 + 1 by omega]
      simp only [List.getElem?_cons_succ, List.getElem_cons_succ]
      exact ⟨h1, h2, h3⟩
theorem Fds.of_owns {w : World} {base : Nat} {v : Value} {fs : List Fd} (h : w.ownsRow base 95 3 v fs.length (fdCells fs)) (hn : fs.length ≤ 1000) : Fds w v fs := Sl.of_owns h (by omega)
theorem Fds.below {w w' : World} {v : Value} {fs : List Fd} (h : Fds w v fs) (hb : Below w.heap.size w w') : Fds w' v fs := Sl.below h hb
theorem Fds.shape {w : World} {v : Value} {fs : List Fd} (h : Fds w v fs) : ∃ p c, v = .slice p fs.length c ∧ (p = none → fs.length = 0 ∧ c = 0) ∧ fs.length ≤ c ∧ fs.length ≤ 1000000000 ∧ At w 95 p (fdCells fs) := h
theorem At.fold {w : World} {p : Option Addr} {fs : List Fd} (h : At w 95 p (fdCells fs)) {k : Nat} (hk : k < fs.length) :
    ∃ b o, p = some ⟨b, o, none⟩ ∧ w.cell? ⟨b, o + k * 3, none⟩ = some (.int .i64 fs[k].V) ∧ w.cell? ⟨b, o + k * 3 + 1, none⟩ = some (.int .i64 fs[k].A) ∧ w.cell? ⟨b, o + k * 3 + 2, none⟩ = some (.int .i64 fs[k].B) := by
  obtain ⟨b, o, h1, h2⟩ := h.cells (k := k) (by rw [fdCells_length]; omega)
  obtain ⟨e1, e2, e3⟩ := fdCells_get fs hk
  exact ⟨b, o, h1, h2 _ _ e1, by rw [Nat.add_assoc]; exact h2 _ _ e2, by rw [Nat.add_assoc]; exact h2 _ _ e3⟩

/-- The order of a graph that folds away. -/
def TwoS (g : List (List Int)) (ys : List Int) : Prop := (SerS g ∧ ∃ fs l, FoldedS g fs l ∧ ys = fs.map Fd.V) ∨ (¬ SerS g ∧ ys = [])

theorem foldedS_det {g : List (List Int)} {fs fs2 : List Fd} {l l2 : List Int} (h : FoldedS g fs l) (h2 : FoldedS g fs2 l2) : fs = fs2 ∧ l = l2 := by
  rcases h with ⟨hg, g', h⟩ | ⟨hg, rfl, rfl⟩ <;> rcases h2 with ⟨hg2, g2, h2⟩ | ⟨hg2, rfl, rfl⟩
  · obtain ⟨e1, e2, _⟩ := folds_det h h2
    exact ⟨e1, e2⟩
  · exact absurd hg hg2
  · exact absurd hg2 hg
  · exact ⟨rfl, rfl⟩
theorem twoS_det {g : List (List Int)} {ys zs : List Int} (h : TwoS g ys) (h2 : TwoS g zs) : ys = zs := by
  rcases h with ⟨hg, fs, l, h, rfl⟩ | ⟨hg, rfl⟩ <;> rcases h2 with ⟨hg2, fs2, l2, h2, rfl⟩ | ⟨hg2, rfl⟩
  · rw [(foldedS_det h h2).1]
  · exact absurd hg hg2
  · exact absurd hg2 hg
  · rfl

end Go.Proofs.YtiklocamfgopbaaDoor
