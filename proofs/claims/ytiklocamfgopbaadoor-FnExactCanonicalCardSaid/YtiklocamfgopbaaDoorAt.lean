/- Walk: how the reference says that a vertex may be folded. -/
import Derived.Test.YtiklocamfgopbaaDoorFold
namespace Go.Proofs.YtiklocamfgopbaaDoor
open Go.RowKit

theorem getD_zero {r : List Int} (h : 0 < r.length) (d : Int) : r.getD 0 d = r[0] := by simp [h]
theorem getD_one {r : List Int} (h : 1 < r.length) (d : Int) : r.getD 1 d = r[1] := by simp [h]

set_option maxRecDepth 100000 in
set_option maxHeartbeats 4000000 in
theorem l20At_any (v : Value) (g : List (List Int)) (k : Nat) (hk : k < g.length) (w : World) (hg : Gr w v g) :
    Calls Tryd.prog 77 #[v, .int .i64 k] w fun e w' => Below w.heap.size w w' ∧
      if (row g k).length ≤ 2 then e = .returned (.tuple #[fdVal (atRow k (row g k)), .bool true]) else e = .returned (.tuple #[fdVal ⟨0, 0, 0⟩, .bool false]) := by
  obtain ⟨u, rfl, hr⟩ := hg
  obtain ⟨p, c, rfl, _, _, hn⟩ := hr.shape
  obtain ⟨b, o, rp, rc, rfl, hcell, hnums⟩ := hr.get hk
  change w.cell? _ = some (.slice rp (row g k).length rc) at hcell
  change Nums w _ _ (.slice rp (row g k).length rc) (row g k) at hnums
  have hc3 : ∀ o1 o2 o3, (((w.alloc o1).alloc o2).alloc o3).cell? ⟨b, o + k, none⟩ = some (.slice rp (row g k).length rc) := fun o1 o2 o3 => (below_alloc3 w o1 o2 o3).at' hcell
  have hb3 := Lib.hid (below_alloc3 w)
  obtain ⟨_, _, hv, _, _, _, hat⟩ := hnums
  simp only [Value.slice.injEq, true_and] at hv
  obtain ⟨rfl, rfl⟩ := hv
  generalize row g k = r at *
  clear hr hcell
  by_cases h2 : r.length ≤ 2
  case neg =>
    simp only [h2, if_false]
    go_enter Tryd.func77, Tryd.ntmps77
    go_wp2
    refine bodyPost_ret (v := .tuple #[.agg #[.int .i64 0, .int .i64 0, .int .i64 0], .bool false]) (by simp [results, Tryd.results77, go_sem]) rfl ⟨hb3.out _ _ _, rfl⟩
  simp only [h2, if_true]
  by_cases h0 : 0 < r.length
  case neg =>
    have e : r = [] := List.eq_nil_of_length_eq_zero (by omega)
    subst e
    go_enter Tryd.func77, Tryd.ntmps77
    go_wp2
    refine bodyPost_ret (v := .tuple #[.agg #[.int .i64 k, .int .i64 (-1), .int .i64 (-1)], .bool true]) (by simp [results, Tryd.results77, go_sem]) rfl ⟨hb3.out _ _ _, rfl⟩
  obtain ⟨b2, o2, rfl, hcs⟩ := hat.cells (k := 0) (by simpa using h0)
  have e0 : ∀ o1 o2' o3, (((w.alloc o1).alloc o2').alloc o3).cell? ⟨b2, o2, none⟩ = some (.int .i64 (r.getD 0 (-1))) := fun o1 o2' o3 => (below_alloc3 w o1 o2' o3).at' (hcs 0 _ (by rw [getD_zero h0]; simp [h0]))
  by_cases h1 : 1 < r.length
  · have e1 : ∀ o1 o2' o3, (((w.alloc o1).alloc o2').alloc o3).cell? ⟨b2, o2 + 1, none⟩ = some (.int .i64 (r.getD 1 (-1))) := fun o1 o2' o3 => (below_alloc3 w o1 o2' o3).at' (hcs 1 _ (by rw [getD_one h1]; simp [h1]))
    have hf : atRow k r = ⟨k, r.getD 0 (-1), r.getD 1 (-1)⟩ := rfl
    rw [hf]
    clear hf hcs hat
    generalize r.getD 0 (-1) = x0 at *
    generalize r.getD 1 (-1) = x1 at *
    go_enter Tryd.func77, Tryd.ntmps77
    go_wp2
    refine bodyPost_ret (v := .tuple #[.agg #[.int .i64 k, .int .i64 x0, .int .i64 x1], .bool true]) (by simp [results, Tryd.results77, go_sem]) rfl ⟨hb3.out _ _ _, rfl⟩
  · have hf : atRow k r = ⟨k, r.getD 0 (-1), -1⟩ := by
      unfold atRow
      rw [show r.getD 1 (-1) = -1 from by simp [show r.length ≤ 1 by omega]]
    rw [hf]
    clear hf hcs hat
    generalize r.getD 0 (-1) = x0 at *
    go_enter Tryd.func77, Tryd.ntmps77
    go_wp2
    refine bodyPost_ret (v := .tuple #[.agg #[.int .i64 k, .int .i64 x0, .int .i64 (-1)], .bool true]) (by simp [results, Tryd.results77, go_sem]) rfl ⟨hb3.out _ _ _, rfl⟩

theorem l20At_yes (v : Value) (g : List (List Int)) (k : Nat) (hk : k < g.length) (w : World) (hg : Gr w v g) (h2 : (row g k).length ≤ 2) (V A B : Int) (hf : (⟨V, A, B⟩ : Fd) = atRow k (row g k)) :
    Calls Tryd.prog 77 #[v, .int .i64 k] w fun e w' => e = .returned (.tuple #[.agg #[.int .i64 V, .int .i64 A, .int .i64 B], .bool true]) ∧ Below w.heap.size w w' :=
  (l20At_any v g k hk w hg).mono fun e w' ⟨h, he⟩ => by
    simp only [h2, if_true] at he
    rw [← hf] at he
    exact ⟨he, h⟩
theorem l20At_no (v : Value) (g : List (List Int)) (k : Nat) (hk : k < g.length) (w : World) (hg : Gr w v g) (h2 : ¬ (row g k).length ≤ 2) :
    Calls Tryd.prog 77 #[v, .int .i64 k] w fun e w' => e = .returned (.tuple #[.agg #[.int .i64 0, .int .i64 0, .int .i64 0], .bool false]) ∧ Below w.heap.size w w' :=
  (l20At_any v g k hk w hg).mono fun e w' ⟨h, he⟩ => by
    simp only [h2, if_false] at he
    exact ⟨he, h⟩

end Go.Proofs.YtiklocamfgopbaaDoor
