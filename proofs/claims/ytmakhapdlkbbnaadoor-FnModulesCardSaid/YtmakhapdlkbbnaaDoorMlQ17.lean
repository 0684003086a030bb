/- Walks: how the reference says that a vertex may be pruned. -/
import Derived.Test.YtmakhapdlkbbnaaDoorMlQ12
import Derived.Test.YtmakhapdlkbbnaaDoorMlQ16
import Derived.Test.YtmakhapdlkbbnaaDoorMlQ5
import Derived.Deep.RegionHeld3
import Derived.Deep.DeepCutAuto
import Derived.Test.YtmakhapdlkbbnaaDoorMlQ6
import Derived.Test.YtmakhapdlkbbnaaDoorMlQ2
namespace Go.Proofs.YtmakhapdlkbbnaaDoor
open Go.RowKit

theorem owns_shapeA {w : World} {base : Nat} {E : TypeId} {size n : Nat} {v : Value} {xs : List Value} (h : w.ownsRow base E size v n xs) : ∃ p c, v = .slice p n c := by
  rcases h.2 with ⟨rfl, h0⟩ | ⟨b, c, _, rfl, _⟩
  · exact ⟨none, 0, by rw [h0]⟩
  · exact ⟨_, _, rfl⟩

def nearT (g : List (List Int)) (L : List Int) (k : Nat) (b : Int) (t : Nat) : List Int := ((row g k).take t).filter fun x => decide (x ≠ b ∧ x ∈ L)
theorem nearT_succ {g : List (List Int)} {L : List Int} {k : Nat} {b : Int} {t : Nat} (h : t < (row g k).length) :
    nearT g L k b (t + 1) = if (row g k)[t] ≠ b ∧ (row g k)[t] ∈ L then nearT g L k b t ++ [(row g k)[t]] else nearT g L k b t := by
  unfold nearT
  rw [take_snoc _ t h, List.filter_append]
  split
  · rename_i hc; rw [List.filter_cons_of_pos (by simpa using hc)]; rfl
  · rename_i hc; rw [List.filter_cons_of_neg (by simpa using hc)]; simp
theorem nearT_len (g : List (List Int)) (L : List Int) (k : Nat) (b : Int) (t : Nat) : (nearT g L k b t).length ≤ (row g k).length :=
  Nat.le_trans (List.length_filter_le _ _) (by rw [List.length_take]; omega)
theorem nearT_end (g : List (List Int)) (L : List Int) (k : Nat) (b : Int) : nearT g L k b (row g k).length = nearB g L k b := by
  unfold nearT nearB; rw [List.take_length]

end Go.Proofs.YtmakhapdlkbbnaaDoor

/- Walk: the reference says whether a vertex may be pruned so. -/
namespace Go.Proofs.YtmakhapdlkbbnaaDoor
open Go.RowKit

theorem cells3 (w : World) (a b c : Value) (T : TypeId) : (w.alloc (.cells #[a, b, c] T)).cell? ⟨w.heap.size, 0, none⟩ = some a ∧ (w.alloc (.cells #[a, b, c] T)).cell? ⟨w.heap.size, 1, none⟩ = some b ∧ (w.alloc (.cells #[a, b, c] T)).cell? ⟨w.heap.size, 2, none⟩ = some c := by
  have := heap_alloc_new w (.cells #[a, b, c] T)
  refine ⟨?_, ?_, ?_⟩ <;> (unfold World.cell?; rw [this]; rfl)

theorem nearB_16 {g : List (List Int)} (hok : GOk g) {L : List Int} {v : Nat} (hv : v < g.length) (b : Int) : (nearB g L v b).length ≤ 16 :=
  Nat.le_trans (nearB_len g L v b) (gOk_row_le hok v hv)

theorem goP_one {g : List (List Int)} {L : List Int} {v : Nat} (hL : ∀ x ∈ L, 0 ≤ x) : GoP g L v (-1) 1 ↔ (nearB g L v (-1)).length = 0 := by
  rw [nearB_nil]
  constructor
  · rintro (⟨_, _, h⟩ | ⟨h, _⟩)
    · intro x hx hr
      rw [Int.toNat_natCast] at h
      exact absurd hr (h x hx)
    · have := hL _ h; omega
  · intro h
    refine .inl ⟨rfl, rfl, fun x hx hr => ?_⟩
    rw [Int.toNat_natCast] at hr
    have := h x hx hr
    have := hL x hx
    omega
theorem goP_two {g : List (List Int)} (hok : GOk g) {L : List Int} {v b : Nat} (hv : v < g.length) (hb : (b : Int) ∈ L) (hvb : b ≠ v) :
    GoP g L v b 2 ↔ (b : Int) ∈ row g v ∧ (nearB g L v b).length = 0 := by
  rw [nearB_nil]
  constructor
  · rintro (⟨h, _⟩ | ⟨_, _, h⟩)
    · omega
    · rcases h with ⟨_, h⟩ | ⟨h, _⟩ | ⟨h, _⟩
      · simp only [Int.toNat_natCast] at h
        exact ⟨(h _ hb).2 rfl, fun x hx hr => (h x hx).1 hr⟩
      · omega
      · omega
  · rintro ⟨h1, h2⟩
    refine .inr ⟨hb, by omega, .inl ⟨rfl, fun x hx => ?_⟩⟩
    rw [Int.toNat_natCast]
    exact ⟨fun hr => h2 x hx hr, fun e => by subst e; exact h1⟩
theorem goP_three {g : List (List Int)} (hok : GOk g) {L : List Int} {v b : Nat} (hv : v < g.length) (hbl : b < g.length) (hvL : (v : Int) ∈ L) (hb : (b : Int) ∈ L) (hvb : b ≠ v) :
    GoP g L v b 3 ↔ (b : Int) ∉ row g v ∧ nearB g L v b = nearB g L b v := by
  rw [nearB_same hok hv hbl hvL hb (fun e => hvb e.symm)]
  constructor
  · rintro (⟨h, _⟩ | ⟨_, _, h⟩)
    · omega
    · rcases h with ⟨h, _⟩ | ⟨_, h⟩ | ⟨h, _⟩
      · omega
      · simpa only [Int.toNat_natCast] using h
      · omega
  · intro h
    exact .inr ⟨hb, by omega, .inr (.inl ⟨rfl, by simpa only [Int.toNat_natCast] using h⟩)⟩
theorem goP_four {g : List (List Int)} (hok : GOk g) {L : List Int} {v b : Nat} (hv : v < g.length) (hbl : b < g.length) (hvL : (v : Int) ∈ L) (hb : (b : Int) ∈ L) (hvb : b ≠ v) :
    GoP g L v b 4 ↔ (b : Int) ∈ row g v ∧ nearB g L v b = nearB g L b v := by
  rw [nearB_same hok hv hbl hvL hb (fun e => hvb e.symm)]
  constructor
  · rintro (⟨h, _⟩ | ⟨_, _, h⟩)
    · omega
    · rcases h with ⟨h, _⟩ | ⟨h, _⟩ | ⟨_, h⟩
      · omega
      · omega
      · simpa only [Int.toNat_natCast] using h
  · intro h
    exact .inr ⟨hb, by omega, .inr (.inr ⟨rfl, by simpa only [Int.toNat_natCast] using h⟩)⟩
theorem goP_self {g : List (List Int)} {L : List Int} {v k : Int} (hk : 2 ≤ k) : ¬ GoP g L v v k := by
  rintro (⟨h, _⟩ | ⟨_, h, _⟩)
  · omega
  · exact h rfl

end Go.Proofs.YtmakhapdlkbbnaaDoor

/- Walk: the reference's first prune of a vertex. -/
namespace Go.Proofs.YtmakhapdlkbbnaaDoor
open Go.RowKit

/-- A block of three cells. -/
structure Box3 (w : World) (b : Nat) (T : TypeId) (x y z : Value) : Prop where
  blk : w.heap[b]? = some (.cells #[x, y, z] T (0, 0))
theorem Box3.cells {w : World} {b : Nat} {T : TypeId} {x y z : Value} (h : Box3 w b T x y z) : w.cell? ⟨b, 0, none⟩ = some x ∧ w.cell? ⟨b, 1, none⟩ = some y ∧ w.cell? ⟨b, 2, none⟩ = some z := by
  refine ⟨?_, ?_, ?_⟩ <;> (unfold World.cell?; rw [h.blk]; rfl)
theorem Box3.free {w : World} {b : Nat} {T : TypeId} {x y z : Value} (h : Box3 w b T x y z) (i : Nat) : w.frozen? ⟨b, i, none⟩ = false := by simp [World.frozen?, h.blk]
theorem Box3.lt {w : World} {b : Nat} {T : TypeId} {x y z : Value} (h : Box3 w b T x y z) : b < w.heap.size := lt_of_block h.blk
theorem Box3.new (w : World) (x y z : Value) (T : TypeId) : Box3 (w.alloc (.cells #[x, y, z] T)) w.heap.size T x y z := ⟨heap_alloc_new w _⟩
theorem Box3.below {w w' : World} {b : Nat} {T : TypeId} {x y z : Value} {B : Nat} (h : Box3 w b T x y z) (hb : Below B w w') (hB : b < B) : Box3 w' b T x y z := ⟨(hb.block b hB).trans h.blk⟩
theorem Box3.keep {w w' : World} {b : Nat} {T : TypeId} {x y z : Value} (h : Box3 w b T x y z) (hb : Below w.heap.size w w') : Box3 w' b T x y z := h.below hb h.lt
theorem Box3.set {w : World} {b : Nat} {T : TypeId} {x y z : Value} (h : Box3 w b T x y z) (p q r : Value) : Box3 (((w.setCell ⟨b, 0, none⟩ p).setCell ⟨b, 1, none⟩ q).setCell ⟨b, 2, none⟩ r) b T p q r := by
  constructor
  have h1 := heap_setCell_same w b 0 _ T p h.blk
  have h2 := heap_setCell_same _ b 1 _ T q h1
  have h3 := heap_setCell_same _ b 2 _ T r h2
  simpa using h3
theorem set3_belowP {B f : Nat} (w : World) (a b c : Value) (h : B ≤ f) : Below B w (((w.setCell ⟨f, 0, none⟩ a).setCell ⟨f, 1, none⟩ b).setCell ⟨f, 2, none⟩ c) :=
  (((Below.refl _ _).setCell h a).setCell h b).setCell h c

def prOut : Option Pr → Value
  | none => .agg #[.int .i64 0, .int .i64 0, .int .i64 0]
  | some p => .agg #[.int .i64 p.V, .int .i64 p.B, .int .i64 p.K]

theorem goP_none_step {g : List (List Int)} {L : List Int} {v K : Int} (hL : L.Pairwise (· < ·)) (h1 : 2 ≤ K) (h : ∀ j (hj : j < L.length), ¬ GoP g L v L[j] K) : ∀ b, ¬ GoP g L v b K := by
  intro b hb
  rcases id hb with ⟨e, _⟩ | ⟨hm, _⟩
  · omega
  · obtain ⟨j, hj, e⟩ := List.getElem_of_mem hm
    exact h j hj (by rw [e]; exact hb)
theorem goP_lt {g : List (List Int)} {L : List Int} {v K : Int} (hL : L.Pairwise (· < ·)) (h1 : 2 ≤ K) {t : Nat} (ht : t < L.length) (h : ∀ j (hj : j < L.length), j < t → ¬ GoP g L v L[j] K) : ∀ b, b < L[t] → ¬ GoP g L v b K := by
  intro b hb hgo
  rcases id hgo with ⟨e, _⟩ | ⟨hm, _⟩
  · omega
  · obtain ⟨j, hj, e⟩ := List.getElem_of_mem hm
    refine h j hj ?_ (by rw [e]; exact hgo)
    refine Classical.byContradiction fun hn => ?_
    rcases Nat.lt_or_ge t j with h2 | h2
    · have := List.pairwise_iff_getElem.1 hL t j ht hj h2
      omega
    · obtain rfl : t = j := by omega
      omega

end Go.Proofs.YtmakhapdlkbbnaaDoor

/- Rows of prunes: what a slice of them reads as. -/
namespace Go.Proofs.YtmakhapdlkbbnaaDoor
open Go.RowKit

/-- The cells of some prunes. -/
def prCells (l : List Pr) : List Value := l.flatMap fun f => [.int .i64 f.V, .int .i64 f.B, .int .i64 f.K]
theorem prCells_snoc (l : List Pr) (f : Pr) : prCells (l ++ [f]) = prCells l ++ [.int .i64 f.V, .int .i64 f.B, .int .i64 f.K] := by simp [prCells]
theorem prCells_length (l : List Pr) : (prCells l).length = l.length * 3 := by
  induction l with
  | nil => rfl
  | cons f l ih => simp only [prCells, List.flatMap_cons, List.length_append, List.length_cons, List.length_nil] at ih ⊢; omega


theorem prCells_get (fs : List Pr) : ∀ {k : Nat} (hk : k < fs.length), (prCells fs)[k * 3]? = some (.int .i64 fs[k].V) ∧ (prCells fs)[k * 3 + 1]? = some (.int .i64 fs[k].B) ∧ (prCells fs)[k * 3 + 2]? = some (.int .i64 fs[k].K) := by
  induction fs with
  | nil => intro k hk; simp at hk
  | cons f fs ih =>
    intro k hk
    have e : prCells (f :: fs) = .int .i64 f.V :: .int .i64 f.B :: .int .i64 f.K :: prCells fs := rfl
    rw [e]
    cases k with
    | zero => exact ⟨rfl, rfl, rfl⟩
    | succ k =>
      obtain ⟨h1, h2, h3⟩ := ih (k := k) (by simpa using hk)
      rw [show (k + 1) * 3 = k * 3 + 1 + 1 + 1 by omega, show k * 3 + 1 + 1 + 1 + 1 = k * 3 + 1 + 1 + 1 + 1 from rfl, show k * 3 + 1 + 1 + 1 + 2 = k * 3 + 2 + 1 + 1 + 1 by omega]
      simp only [List.getElem?_cons_succ, List.getElem_cons_succ]
      exact ⟨h1, h2, h3⟩
end Go.Proofs.YtmakhapdlkbbnaaDoor

/- Walks: the reference prunes. -/
namespace Go.Proofs.YtmakhapdlkbbnaaDoor
open Go.RowKit

theorem exists_min {P : Int → Prop} {lo : Int} (hlo : ∀ b, P b → lo ≤ b) : ∀ (n : Nat), (∃ b, P b ∧ (b - lo).toNat ≤ n) → ∃ b, P b ∧ ∀ c, c < b → ¬ P c
  | 0, ⟨b, hb, hn⟩ => ⟨b, hb, fun c hc h => by have := hlo c h; have := hlo b hb; omega⟩
  | n + 1, ⟨b, hb, hn⟩ => by
    by_cases h : ∃ c, c < b ∧ P c
    · obtain ⟨c, hc, hp⟩ := h
      exact exists_min hlo n ⟨c, hp, by have := hlo c hp; have := hlo b hb; omega⟩
    · exact ⟨b, hb, fun c hc hp => h ⟨c, hc, hp⟩⟩
theorem prS_ex {g : List (List Int)} {L : List Int} {v : Int} (hL : ∀ x ∈ L, 0 ≤ x) : ∃ r, PrS g L v r := by
  by_cases h : ∃ k b, GoP g L v b k
  · obtain ⟨k0, b0, h0⟩ := h
    obtain ⟨k, ⟨b1, hb1⟩, hk⟩ := exists_min (P := fun k => ∃ b, GoP g L v b k) (lo := 1) (fun k ⟨b, hb⟩ => (goP_kind hb).1) _ ⟨k0, ⟨b0, h0⟩, Nat.le_refl _⟩
    obtain ⟨b, hb, hbm⟩ := exists_min (P := fun b => GoP g L v b k) (lo := -1) (fun b hb => by
      rcases hb with ⟨_, h, _⟩ | ⟨h, _⟩
      · omega
      · have := hL b h; omega) _ ⟨b1, hb1, Nat.le_refl _⟩
    refine ⟨some ⟨v, b, k⟩, rfl, hb, ?_⟩
    rintro k' b' (h | ⟨h, h2⟩) hgo
    · exact hk k' h ⟨b', hgo⟩
    · simp only at h h2
      subst h
      exact hbm b' h2 hgo
  · exact ⟨none, fun k b hb => h ⟨k, b, hb⟩⟩

end Go.Proofs.YtmakhapdlkbbnaaDoor
