/- Walks: the reference's list operations that make memory. -/
import Derived.Test.YtlhkhibnbmnjiaaDoorGraphOk
import Derived.Test.YtlhkhibnbmnjiaaDoorListP
namespace Go.Proofs.YtlhkhibnbmnjiaaDoor
open Go.RowKit

set_option maxRecDepth 100000 in
set_option maxHeartbeats 1000000 in
theorem l1Copy_any (v : Value) (n : Nat) (vals : List Value) (h1 : ∀ x ∈ vals, x.oneCell' = true) (hl : vals.length = n) (w : World) (hx : Sl w 2 v n vals) :
    Calls Tryd.prog 44 #[v] w fun e w' => ∃ u, e = .returned u ∧ w'.ownsRow w.heap.size 2 1 u n vals ∧ Below w.heap.size w w' := by
  have hn := hx
  obtain ⟨p, c, rfl, _, _, hn, _⟩ := hn
  have hx' := hx.below (below_alloc w (.cells #[] 2))
  have ho := ownsRow_empty w 2 1
  have hb := below_alloc w (.cells #[] 2)
  have hsz : w.heap.size ≤ (w.alloc (.cells #[] 2)).heap.size := hb.size
  have Hl := Lib.hid hl
  clear hl
  go_enter Tryd.func44, Tryd.ntmps44
  go_wp2_with (at_builtin; refine wpList_app ty_i64 rfl rfl rfl ho rfl hx' (by have := Hl.out; omega) h1 (by omega) hsz ?_; intro v' w1 hown' hg _)
  go_ret
  refine ⟨_, rfl, by simpa using hown', below_grown hb ho hg (Nat.le_refl _) hsz⟩

theorem oneCell_ints (K : IntKind) (xs : List Int) : ∀ x ∈ xs.map (Value.int K), x.oneCell' = true := by
  intro x hx
  obtain ⟨y, _, rfl⟩ := List.mem_map.1 hx
  rfl



end Go.Proofs.YtlhkhibnbmnjiaaDoor
