/- Walks: how the reference says that a vertex may be pruned. -/
import Derived.Test.YtjdlmjmhlbpooaaDoorBwQ11
import Derived.Test.YtjdlmjmhlbpooaaDoorBwQ32
import Derived.Test.YtjdlmjmhlbpooaaDoorBwQ13
import Derived.Deep.RegionHeld3
import Derived.Deep.DeepCutAuto
import Derived.Test.YtjdlmjmhlbpooaaDoorBwQ6
import Derived.Test.YtjdlmjmhlbpooaaDoorBwQ30
import Derived.Test.YtjdlmjmhlbpooaaDoorBwQ15
import Derived.Deep.RegionWith
import Derived.Test.YtjdlmjmhlbpooaaDoorBwQ16
namespace Go.Proofs.YtjdlmjmhlbpooaaDoor
open Go.RowKit

theorem owns_shapeA {w : World} {base : Nat} {E : TypeId} {size n : Nat} {v : Value} {xs : List Value} (h : w.ownsRow base E size v n xs) : ∃ p c, v = .slice p n c := by
  rcases h.2 with ⟨rfl, h0⟩ | ⟨b, c, _, rfl, _⟩
  · exact ⟨none, 0, by rw [h0]⟩
  · exact ⟨_, _, rfl⟩

def nearT (g : List (List Int)) (L : List Int) (k : Nat) (b : Int) (t : Nat) : List Int := ((row g k).take t).filter fun x => decide (x ≠ b ∧ x ∈ L)
theorem nearT_succ {g : List (List Int)} {L : List Int} {k : Nat} {b : Int} {t : Nat} (h : t < (row g k).length) :
    nearT g L k b (t + 1) = if (row g k)[t] ≠ b ∧ (row g k)[t] ∈ L then nearT g L k b t ++ [(row g k)[t]] else nearT g L k b t := by
  unfold nearT
  rw [take_snoc _ t h, List.filter_append]
  split
  · rename_i hc; rw [List.filter_cons_of_pos (by simpa using hc)]; rfl
  · rename_i hc; rw [List.filter_cons_of_neg (by simpa using hc)]; simp
theorem nearT_len (g : List (List Int)) (L : List Int) (k : Nat) (b : Int) (t : Nat) : (nearT g L k b t).length ≤ (row g k).length :=
  Nat.le_trans (List.length_filter_le _ _) (by rw [List.length_take]; omega)
theorem nearT_end (g : List (List Int)) (L : List Int) (k : Nat) (b : Int) : nearT g L k b (row g k).length = nearB g L k b := by
  unfold nearT nearB; rw [List.take_length]

end Go.Proofs.YtjdlmjmhlbpooaaDoor

/- Walk: the reference says whether a vertex may be pruned so. -/
namespace Go.Proofs.YtjdlmjmhlbpooaaDoor
open Go.RowKit

theorem cells3 (w : World) (a b c : Value) (T : TypeId) : (w.alloc (.cells #[a, b, c] T)).cell? ⟨w.heap.size, 0, none⟩ = some a ∧ (w.alloc (.cells #[a, b, c] T)).cell? ⟨w.heap.size, 1, none⟩ = some b ∧ (w.alloc (.cells #[a, b, c] T)).cell? ⟨w.heap.size, 2, none⟩ = some c := by
  have := heap_alloc_new w (.cells #[a, b, c] T)
  refine ⟨?_, ?_, ?_⟩ <;> (unfold World.cell?; rw [this]; rfl)

theorem nearB_16 {g : List (List Int)} (hok : GOk g) {L : List Int} {v : Nat} (hv : v < g.length) (b : Int) : (nearB g L v b).length ≤ 16 :=
  Nat.le_trans (nearB_len g L v b) (gOk_row_le hok v hv)

theorem goP_one {g : List (List Int)} {L : List Int} {v : Nat} (hL : ∀ x ∈ L, 0 ≤ x) : GoP g L v (-1) 1 ↔ (nearB g L v (-1)).length = 0 := by
  rw [nearB_nil]
  constructor
  · rintro (⟨_, _, h⟩ | ⟨h, _⟩)
    · intro x hx hr
      rw [Int.toNat_natCast] at h
      exact absurd hr (h x hx)
    · have := hL _ h; omega
  · intro h
    refine .inl ⟨rfl, rfl, fun x hx hr => ?_⟩
    rw [Int.toNat_natCast] at hr
    have := h x hx hr
    have := hL x hx
    omega
theorem goP_two {g : List (List Int)} (hok : GOk g) {L : List Int} {v b : Nat} (hv : v < g.length) (hb : (b : Int) ∈ L) (hvb : b ≠ v) :
    GoP g L v b 2 ↔ (b : Int) ∈ row g v ∧ (nearB g L v b).length = 0 := by
  rw [nearB_nil]
  constructor
  · rintro (⟨h, _⟩ | ⟨_, _, h⟩)
    · omega
    · rcases h with ⟨_, h⟩ | ⟨h, _⟩ | ⟨h, _⟩
      · simp only [Int.toNat_natCast] at h
        exact ⟨(h _ hb).2 rfl, fun x hx hr => (h x hx).1 hr⟩
      · omega
      · omega
  · rintro ⟨h1, h2⟩
    refine .inr ⟨hb, by omega, .inl ⟨rfl, fun x hx => ?_⟩⟩
    rw [Int.toNat_natCast]
    exact ⟨fun hr => h2 x hx hr, fun e => by subst e; exact h1⟩
theorem goP_three {g : List (List Int)} (hok : GOk g) {L : List Int} {v b : Nat} (hv : v < g.length) (hbl : b < g.length) (hvL : (v : Int) ∈ L) (hb : (b : Int) ∈ L) (hvb : b ≠ v) :
    GoP g L v b 3 ↔ (b : Int) ∉ row g v ∧ nearB g L v b = nearB g L b v := by
  rw [nearB_same hok hv hbl hvL hb (fun e => hvb e.symm)]
  constructor
  · rintro (⟨h, _⟩ | ⟨_, _, h⟩)
    · omega
    · rcases h with ⟨h, _⟩ | ⟨_, h⟩ | ⟨h, _⟩
      · omega
      · simpa only [Int.toNat_natCast] using h
      · omega
  · intro h
    exact .inr ⟨hb, by omega, .inr (.inl ⟨rfl, by simpa only [Int.toNat_natCast] using h⟩)⟩
theorem goP_four {g : List (List Int)} (hok : GOk g) {L : List Int} {v b : Nat} (hv : v < g.length) (hbl : b < g.length) (hvL : (v : Int) ∈ L) (hb : (b : Int) ∈ L) (hvb : b ≠ v) :
    GoP g L v b 4 ↔ (b : Int) ∈ row g v ∧ nearB g L v b = nearB g L b v := by
  rw [nearB_same hok hv hbl hvL hb (fun e => hvb e.symm)]
  constructor
  · rintro (⟨h, _⟩ | ⟨_, _, h⟩)
    · omega
    · rcases h with ⟨h, _⟩ | ⟨h, _⟩ | ⟨_, h⟩
      · omega
      · omega
      · simpa only [Int.toNat_natCast] using h
  · intro h
    exact .inr ⟨hb, by omega, .inr (.inr ⟨rfl, by simpa only [Int.toNat_natCast] using h⟩)⟩
theorem goP_self {g : List (List Int)} {L : List Int} {v k : Int} (hk : 2 ≤ k) : ¬ GoP g L v v k := by
  rintro (⟨h, _⟩ | ⟨_, h, _⟩)
  · omega
  · exact h rfl

end Go.Proofs.YtjdlmjmhlbpooaaDoor

/- Walks: two vertices made no neighbours; the program's edges. -/
namespace Go.Proofs.YtjdlmjmhlbpooaaDoor
open Go.RowKit

set_option maxRecDepth 100000 in
set_option maxHeartbeats 1000000 in
theorem part_any (x : Value) (y z : Int) (a : List Nat) (u v base : Nat) (hy : y = u) (hz : z = v) (hu : u < a.length) (hv : v < a.length) (huv : u ≠ v) (h16 : a.length ≤ 16) (ha : ∀ s ∈ a, s < 65536) (w : World)
    (ho : w.ownsRow base 69 1 x a.length (a.map u32v)) :
    Calls Tryd.prog 66 #[x, .int .i64 y, .int .i64 z] w fun e w' => e = .returned (.tuple #[]) ∧
      w'.ownsRow base 69 1 x a.length ((partN a u v).map u32v) ∧ w.grownBy w' x.ownBlock := by
  subst hy; subst hz
  rcases ho.2 with ⟨_, h0⟩ | ⟨g, cap, cur, rfl, _⟩
  · omega
  have hc1 := ho.cellAt u (by omega)
  have hf1 := ho.frozenAt u
  rw [List.getElem?_map, List.getElem?_eq_getElem hu] at hc1
  change w.cell? _ = some (.int .u32 (a[u] : Int)) at hc1
  have ha1 := ha _ (List.getElem_mem hu)
  have hor1 : bits BinOp.andNot IntKind.u32 (a[u] : Int) ((2 ^ v : Nat) : Int) = ((sub a[u] (2 ^ v) : Nat) : Int) := u32_andNot_nat a[u] (2 ^ v) (by omega) (pow_lt32 v (by omega))
  -- behind the first store
  obtain ⟨ho2, hg2⟩ := ho.stored u (.int .u32 ((sub a[u] (2 ^ v) : Nat) : Int))
  obtain ⟨b, hb⟩ : ∃ b, b = a.set u (sub a[u] (2 ^ v)) := ⟨_, rfl⟩
  have hbl : b.length = a.length := by rw [hb]; simp
  have hbm : (a.map u32v).set u (.int .u32 ((sub a[u] (2 ^ v) : Nat) : Int)) = b.map u32v := by rw [hb, List.map_set]; rfl
  rw [hbm] at ho2
  have hvb : v < b.length := by omega
  have hb16 : ∀ s ∈ b, s < 65536 := by
    intro s hs
    rw [hb] at hs
    rcases List.mem_or_eq_of_mem_set hs with h | h
    · exact ha s h
    · subst h; exact sub_lt16 _ _ ha1
  have hvu : v ≠ u := fun e => huv e.symm
  have hbv : b[v] = a[v] := by simp [hb, huv]
  have hc2 := ho.cellAt v (by omega)
  have hf2' := ho.frozenAt v
  have hf2 := ho2.frozenAt v
  rw [List.getElem?_map, List.getElem?_eq_getElem hv] at hc2
  change w.cell? _ = some (.int .u32 (a[v] : Int)) at hc2
  rw [← hbv] at hc2
  have hor2 : bits BinOp.andNot IntKind.u32 (b[v] : Int) ((2 ^ u : Nat) : Int) = ((sub b[v] (2 ^ u) : Nat) : Int) := u32_andNot_nat b[v] (2 ^ u) (by have := hb16 _ (List.getElem_mem hvb); omega) (pow_lt32 u (by omega))
  obtain ⟨ho3, hg3⟩ := ho2.stored v (.int .u32 ((sub b[v] (2 ^ u) : Nat) : Int))
  have hfin : (b.map u32v).set v (.int .u32 ((sub b[v] (2 ^ u) : Nat) : Int)) = (partN a u v).map u32v := by
    have e1 : a.getD u 0 = a[u] := by simp [hu]
    have e2 : b.getD v 0 = b[v] := by simp [hvb]
    simp only [partN, e1]
    rw [← hb, e2, List.map_set]; rfl
  rw [hfin] at ho3
  have H3 := Lib.hid ho3
  have hgr := Lib.hid (grown_trans hg2 hg3)
  have c1 := Lib.hid (fun w => one_any (v : Int) v rfl (by omega) w)
  have c2 := Lib.hid (fun w => one_any (u : Int) u rfl (by omega) w)
  clear ho3 hfin ho2 ho hbm hbl hb hb16 hbv hg2 hg3 hf2
  generalize 2 ^ v = pv at *
  generalize 2 ^ u = pu at *
  go_enter Tryd.func66, Tryd.ntmps66
  go_wp2
  go_region_with (go_at_call 102; refine (c1.out _).mono ?_; rintro e w2 ⟨rfl, rfl⟩)
  all_goals go_wp2
  all_goals go_region_with (go_at_call 102; refine (c2.out _).mono ?_; rintro e w2 ⟨rfl, rfl⟩)
  all_goals go_end0
  all_goals exact ⟨rfl, H3.out, hgr.out.os, hgr.out.tape, hgr.out.output, hgr.out.size, hgr.out.block⟩

end Go.Proofs.YtjdlmjmhlbpooaaDoor

/- Walk: the program's edges; two vertices made no neighbours. -/
namespace Go.Proofs.YtjdlmjmhlbpooaaDoor
end Go.Proofs.YtjdlmjmhlbpooaaDoor
