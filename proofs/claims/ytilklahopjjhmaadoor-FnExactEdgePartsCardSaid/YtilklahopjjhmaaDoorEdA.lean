/- Walks: two vertices made no neighbours; the program's edges. -/
import Derived.Test.YtilklahopjjhmaaDoorBrP
import Derived.Test.YtilklahopjjhmaaDoorRchB
import Derived.Test.YtilklahopjjhmaaDoorResults
import Derived.Test.YtilklahopjjhmaaDoorPrG
import Derived.Deep.RegionWith
namespace Go.Proofs.YtilklahopjjhmaaDoor
open Go.RowKit

set_option maxRecDepth 100000 in
set_option maxHeartbeats 1000000 in
theorem part_any (x : Value) (y z : Int) (a : List Nat) (u v base : Nat) (hy : y = u) (hz : z = v) (hu : u < a.length) (hv : v < a.length) (huv : u ≠ v) (h16 : a.length ≤ 16) (ha : ∀ s ∈ a, s < 65536) (w : World)
    (ho : w.ownsRow base 50 1 x a.length (a.map u32v)) :
    Calls Tryd.prog 37 #[x, .int .i64 y, .int .i64 z] w fun e w' => e = .returned (.tuple #[]) ∧
      w'.ownsRow base 50 1 x a.length ((partN a u v).map u32v) ∧ w.grownBy w' x.ownBlock := by
  subst hy; subst hz
  rcases ho.2 with ⟨_, h0⟩ | ⟨g, cap, cur, rfl, _⟩
  · omega
  have hc1 := ho.cellAt u (by omega)
  have hf1 := ho.frozenAt u
  rw [List.getElem?_map, List.getElem?_eq_getElem hu] at hc1
  change w.cell? _ = some (.int .u32 (a[u] : Int)) at hc1
  have ha1 := ha _ (List.getElem_mem hu)
  have hor1 : bits BinOp.andNot IntKind.u32 (a[u] : Int) ((2 ^ v : Nat) : Int) = ((sub a[u] (2 ^ v) : Nat) : Int) := u32_andNot_nat a[u] (2 ^ v) (by omega) (pow_lt32 v (by omega))
  -- behind the first store
  obtain ⟨ho2, hg2⟩ := ho.stored u (.int .u32 ((sub a[u] (2 ^ v) : Nat) : Int))
  obtain ⟨b, hb⟩ : ∃ b, b = a.set u (sub a[u] (2 ^ v)) := ⟨_, rfl⟩
  have hbl : b.length = a.length := by rw [hb]; simp
  have hbm : (a.map u32v).set u (.int .u32 ((sub a[u] (2 ^ v) : Nat) : Int)) = b.map u32v := by rw [hb, List.map_set]; rfl
  rw [hbm] at ho2
  have hvb : v < b.length := by omega
  have hb16 : ∀ s ∈ b, s < 65536 := by
    intro s hs
    rw [hb] at hs
    rcases List.mem_or_eq_of_mem_set hs with h | h
    · exact ha s h
    · subst h; exact sub_lt16 _ _ ha1
  have hvu : v ≠ u := fun e => huv e.symm
  have hbv : b[v] = a[v] := by simp [hb, huv]
  have hc2 := ho.cellAt v (by omega)
  have hf2' := ho.frozenAt v
  have hf2 := ho2.frozenAt v
  rw [List.getElem?_map, List.getElem?_eq_getElem hv] at hc2
  change w.cell? _ = some (.int .u32 (a[v] : Int)) at hc2
  rw [← hbv] at hc2
  have hor2 : bits BinOp.andNot IntKind.u32 (b[v] : Int) ((2 ^ u : Nat) : Int) = ((sub b[v] (2 ^ u) : Nat) : Int) := u32_andNot_nat b[v] (2 ^ u) (by have := hb16 _ (List.getElem_mem hvb); omega) (pow_lt32 u (by omega))
  obtain ⟨ho3, hg3⟩ := ho2.stored v (.int .u32 ((sub b[v] (2 ^ u) : Nat) : Int))
  have hfin : (b.map u32v).set v (.int .u32 ((sub b[v] (2 ^ u) : Nat) : Int)) = (partN a u v).map u32v := by
    have e1 : a.getD u 0 = a[u] := by simp [hu]
    have e2 : b.getD v 0 = b[v] := by simp [hvb]
    simp only [partN, e1]
    rw [← hb, e2, List.map_set]; rfl
  rw [hfin] at ho3
  have H3 := Lib.hid ho3
  have hgr := Lib.hid (grown_trans hg2 hg3)
  have c1 := Lib.hid (fun w => one_any (v : Int) v rfl (by omega) w)
  have c2 := Lib.hid (fun w => one_any (u : Int) u rfl (by omega) w)
  clear ho3 hfin ho2 ho hbm hbl hb hb16 hbv hg2 hg3 hf2
  generalize 2 ^ v = pv at *
  generalize 2 ^ u = pu at *
  go_enter Tryd.func37, Tryd.ntmps37
  go_wp2
  go_region_with (go_at_call 53; refine (c1.out _).mono ?_; rintro e w2 ⟨rfl, rfl⟩)
  all_goals go_wp2
  all_goals go_region_with (go_at_call 53; refine (c2.out _).mono ?_; rintro e w2 ⟨rfl, rfl⟩)
  all_goals go_end0
  all_goals exact ⟨rfl, H3.out, hgr.out.os, hgr.out.tape, hgr.out.output, hgr.out.size, hgr.out.block⟩

end Go.Proofs.YtilklahopjjhmaaDoor
