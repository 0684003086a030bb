/- Walks: the reference's fold of a vertex. -/
import Derived.Test.YtdkmnmnncccgaaaDoorInto
import Derived.Test.YtdkmnmnncccgaaaDoorSeriesP
import Derived.Deep.RegionHeld3
import Derived.Deep.DeepCutAuto
namespace Go.Proofs.YtdkmnmnncccgaaaDoor
open Go.RowKit

def fdVal (f : Fd) : Value := .agg #[.int .i64 f.V, .int .i64 f.A, .int .i64 f.B]

theorem Rws.of_owned {w : World} {base EO EI : Nat} {v : Value} {g : List (List Int)} (vals : List Value) (hl : vals.length = g.length) (ho : w.ownsRow base EO 1 v g.length vals) (hn : g.length ≤ 1000000000)
    (hr : ∀ j, j < g.length → Nums w EI .i64 (vals.getD j undef) (row g j)) : Rws w EO EI v g := ⟨vals, hl, Sl.of_owns ho hn, hr⟩

theorem getD_append_left {α : Type} (l m : List α) (j : Nat) (d : α) (h : j < l.length) : (l ++ m).getD j d = l.getD j d := by simp [List.getElem?_append_left h]
theorem getD_append_last {α : Type} (l : List α) (x d : α) : (l ++ [x]).getD l.length d = x := by simp

theorem cell_new3 (w : World) (a b c : Value) (T : TypeId) : (w.alloc (.cells #[a, b, c] T)).cell? ⟨w.heap.size, 0, none⟩ = some a ∧ (w.alloc (.cells #[a, b, c] T)).cell? ⟨w.heap.size, 1, none⟩ = some b ∧ (w.alloc (.cells #[a, b, c] T)).cell? ⟨w.heap.size, 2, none⟩ = some c := by
  have := heap_alloc_new w (.cells #[a, b, c] T)
  refine ⟨?_, ?_, ?_⟩ <;> (unfold World.cell?; rw [this]; rfl)


end Go.Proofs.YtdkmnmnncccgaaaDoor
