/- Plain: the modules, in the order of size and of lists. -/
import Derived.Test.YtkppbmfliejnmaaDoorSmQ13
import Derived.Test.YtkppbmfliejnmaaDoorSmQ7
import Derived.Test.YtkppbmfliejnmaaDoorSmQ15
import Derived.Test.YtkppbmfliejnmaaDoorSmQ10
import Derived.Deep.RegionHeld3
import Derived.Deep.DeepCutAuto
import Derived.Test.YtkppbmfliejnmaaDoorSmQ4
import Derived.Test.YtkppbmfliejnmaaDoorSmQ3
import Derived.Test.YtkppbmfliejnmaaDoorSmQ8
import Derived.Test.YtkppbmfliejnmaaDoorSmQ26
import Derived.Test.YtkppbmfliejnmaaDoorSmQ27
import Derived.Lib.Tables
import Derived.Lib.BitFns
namespace Go.Proofs.YtkppbmfliejnmaaDoor

/-- Two strictly sorted lists with the same members are one. -/
theorem sorted_ext {α : Type} (lt : α → α → Prop) (hirr : ∀ x, ¬ lt x x) (htr : ∀ {x y z}, lt x y → lt y z → lt x z) : ∀ (l m : List α), l.Pairwise lt → m.Pairwise lt → (∀ x, x ∈ l ↔ x ∈ m) → l = m
  | [], [], _, _, _ => rfl
  | [], b :: m, _, _, h => absurd ((h b).2 (by simp)) (by simp)
  | a :: l, [], _, _, h => absurd ((h a).1 (by simp)) (by simp)
  | a :: l, b :: m, hl, hm, h => by
    have hla := List.pairwise_cons.1 hl
    have hmb := List.pairwise_cons.1 hm
    have hab : a = b := by
      rcases List.mem_cons.1 ((h a).1 (by simp)) with e | h1
      · exact e
      · rcases List.mem_cons.1 ((h b).2 (by simp)) with e | h2
        · exact e.symm
        · exact absurd (htr (hla.1 b h2) (hmb.1 a h1)) (hirr a)
    subst hab
    rw [sorted_ext lt hirr htr l m hla.2 hmb.2 fun x => ?_]
    constructor
    · intro hx
      rcases List.mem_cons.1 ((h x).1 (List.mem_cons_of_mem _ hx)) with e | h1
      · subst e
        exact absurd (hla.1 x hx) (hirr x)
      · exact h1
    · intro hx
      rcases List.mem_cons.1 ((h x).2 (List.mem_cons_of_mem _ hx)) with e | h1
      · subst e
        exact absurd (hmb.1 x hx) (hirr x)
      · exact h1

/-- No vertex outside splits the set. -/
def ModN (g : List (List Int)) (s : Nat) : Prop := ∀ v, v < g.length → s.testBit v = false → mask (row g v) &&& s = 0 ∨ mask (row g v) &&& s = s
/-- The sets numbered below k that are modules, sorted. -/
structure MdOn (P : Nat → Prop) (k : Nat) (L : List (List Nat)) : Prop where
  srt : L.Pairwise lessP
  mem : ∀ x, x ∈ L ↔ ∃ s, 1 ≤ s ∧ s < k ∧ P s ∧ x = bitsOf s
theorem mdOn_start (P : Nat → Prop) : MdOn P 1 [] := ⟨by simp, fun x => by
  constructor
  · intro h; simp at h
  · rintro ⟨s, h1, h2, _⟩; omega⟩
theorem mdOn_skip {P : Nat → Prop} {k : Nat} {L : List (List Nat)} (h : MdOn P k L) (hk : ¬ P k) : MdOn P (k + 1) L := ⟨h.srt, fun x => by
  rw [h.mem]
  constructor
  · rintro ⟨s, h1, h2, h3, h4⟩
    exact ⟨s, h1, by omega, h3, h4⟩
  · rintro ⟨s, h1, h2, h3, h4⟩
    by_cases e : s = k
    · subst e; exact absurd h3 hk
    · exact ⟨s, h1, by omega, h3, h4⟩⟩
theorem mdOn_put {P : Nat → Prop} {k i : Nat} {L : List (List Nat)} (h : MdOn P k L) (hk : P k) (h1 : 1 ≤ k) (hk16 : k < 65536) (hi : i ≤ L.length)
    (hhi : ∀ j (hj : j < L.length), i ≤ j → lessP (bitsOf k) L[j]) (hlo : ∀ (h0 : 0 < i), ¬ lessP (bitsOf k) (L[i - 1]'(by omega))) : MdOn P (k + 1) (L.take i ++ [bitsOf k] ++ L.drop i) := by
  have hnew : bitsOf k ∉ L := fun hm => by
    obtain ⟨s, _, h2, _, h4⟩ := (h.mem _).1 hm
    have e : mask (natInts (bitsOf k)) = mask (natInts (bitsOf s)) := by rw [h4]
    rw [mask_bitsOf hk16, mask_bitsOf (by omega)] at e
    omega
  have hlow : ∀ x ∈ L.take i, lessP x (bitsOf k) := by
    intro x hx
    obtain ⟨j, hj, rfl⟩ := List.getElem_of_mem hx
    rw [List.length_take] at hj
    rw [List.getElem_take]
    have h0 : 0 < i := by omega
    have hl := hlo h0
    have hlast : lessP (L[i - 1]'(by omega)) (bitsOf k) := by
      by_cases hc : lessP (L[i - 1]'(by omega)) (bitsOf k)
      · exact hc
      · exact absurd (lessP_tri hl hc ▸ List.getElem_mem _) hnew
    by_cases hji : j = i - 1
    · subst hji; exact hlast
    · exact lessP_trans (List.pairwise_iff_getElem.1 h.srt j (i - 1) (by omega) (by omega) (by omega)) hlast
  have hhigh : ∀ x ∈ L.drop i, lessP (bitsOf k) x := by
    intro x hx
    obtain ⟨j, hj, rfl⟩ := List.getElem_of_mem hx
    rw [List.length_drop] at hj
    rw [List.getElem_drop]
    exact hhi _ (by omega) (by omega)
  refine ⟨?_, fun x => ?_⟩
  · rw [List.append_assoc, List.pairwise_append]
    refine ⟨h.srt.sublist (List.take_sublist _ _), ?_, fun a ha b hb => ?_⟩
    · rw [List.singleton_append, List.pairwise_cons]
      exact ⟨hhigh, h.srt.sublist (List.drop_sublist _ _)⟩
    · rw [List.singleton_append] at hb
      rcases List.mem_cons.1 hb with rfl | hb
      · exact hlow a ha
      · exact lessP_trans (hlow a ha) (hhigh b hb)
  · rw [List.mem_append, List.mem_append, List.mem_singleton]
    have hx : (x ∈ L.take i ∨ x ∈ L.drop i) ↔ x ∈ L := by rw [← List.mem_append, List.take_append_drop]
    constructor
    · intro hh
      have : x = bitsOf k ∨ x ∈ L := by
        rcases hh with (hh | hh) | hh
        · exact .inr (hx.1 (.inl hh))
        · exact .inl hh
        · exact .inr (hx.1 (.inr hh))
      rcases this with rfl | hm
      · exact ⟨k, h1, by omega, hk, rfl⟩
      · obtain ⟨s, a, b, c, d⟩ := (h.mem x).1 hm
        exact ⟨s, a, by omega, c, d⟩
    · rintro ⟨s, a, b, c, d⟩
      by_cases e : s = k
      · subst e; exact .inl (.inr d)
      · rcases hx.2 ((h.mem x).2 ⟨s, a, by omega, c, d⟩) with hh | hh
        · exact .inl (.inl hh)
        · exact .inr hh
theorem mdOn_det {P : Nat → Prop} {k : Nat} {L M : List (List Nat)} (h : MdOn P k L) (h2 : MdOn P k M) : L = M :=
  sorted_ext lessP lessP_irrefl lessP_trans L M h.srt h2.srt fun x => by rw [h.mem, h2.mem]
/-- What ModulesOf returns. -/
def MdS (g gg : List (List Int)) : Prop := ((GOk g ∧ g.length ≤ 8) ∧ ∃ L, MdOn (ModN g) (2 ^ g.length) L ∧ gg = L.map natInts) ∨ (¬ (GOk g ∧ g.length ≤ 8) ∧ gg = [])
theorem mdS_det {g gg hh : List (List Int)} (h : MdS g gg) (k : MdS g hh) : gg = hh := by
  rcases h with ⟨h1, L, h2, rfl⟩ | ⟨h1, rfl⟩ <;> rcases k with ⟨k1, M, k2, rfl⟩ | ⟨k1, rfl⟩
  · rw [mdOn_det h2 k2]
  · exact absurd h1 k1
  · exact absurd k1 h1
  · rfl
/-- A sorted arrangement of the modules' numbers. -/
theorem mdOn_sorted {P : Nat → Prop} {k : Nat} (hk : k ≤ 65536) {L : List (List Nat)} (hnd : L.Nodup) (hs : L.Pairwise fun x y => ¬ lessP y x) (hm : ∀ x, x ∈ L ↔ ∃ s, 1 ≤ s ∧ s < k ∧ P s ∧ x = bitsOf s) : MdOn P k L := by
  refine ⟨?_, hm⟩
  have hb := hnd.and hs
  exact hb.imp fun {a b} hab => by
    by_cases hc : lessP a b
    · exact hc
    · exact absurd (lessP_tri hc hab.2) hab.1

end Go.Proofs.YtkppbmfliejnmaaDoor

/- Walks: how the reference says that a vertex may be pruned. -/
namespace Go.Proofs.YtkppbmfliejnmaaDoor
open Go.RowKit

theorem owns_shapeA {w : World} {base : Nat} {E : TypeId} {size n : Nat} {v : Value} {xs : List Value} (h : w.ownsRow base E size v n xs) : ∃ p c, v = .slice p n c := by
  rcases h.2 with ⟨rfl, h0⟩ | ⟨b, c, _, rfl, _⟩
  · exact ⟨none, 0, by rw [h0]⟩
  · exact ⟨_, _, rfl⟩

def nearT (g : List (List Int)) (L : List Int) (k : Nat) (b : Int) (t : Nat) : List Int := ((row g k).take t).filter fun x => decide (x ≠ b ∧ x ∈ L)
theorem nearT_succ {g : List (List Int)} {L : List Int} {k : Nat} {b : Int} {t : Nat} (h : t < (row g k).length) :
    nearT g L k b (t + 1) = if (row g k)[t] ≠ b ∧ (row g k)[t] ∈ L then nearT g L k b t ++ [(row g k)[t]] else nearT g L k b t := by
  unfold nearT
  rw [take_snoc _ t h, List.filter_append]
  split
  · rename_i hc; rw [List.filter_cons_of_pos (by simpa using hc)]; rfl
  · rename_i hc; rw [List.filter_cons_of_neg (by simpa using hc)]; simp
theorem nearT_len (g : List (List Int)) (L : List Int) (k : Nat) (b : Int) (t : Nat) : (nearT g L k b t).length ≤ (row g k).length :=
  Nat.le_trans (List.length_filter_le _ _) (by rw [List.length_take]; omega)
theorem nearT_end (g : List (List Int)) (L : List Int) (k : Nat) (b : Int) : nearT g L k b (row g k).length = nearB g L k b := by
  unfold nearT nearB; rw [List.take_length]

end Go.Proofs.YtkppbmfliejnmaaDoor

/- Walk: the reference says whether a vertex may be pruned so. -/
namespace Go.Proofs.YtkppbmfliejnmaaDoor
open Go.RowKit

theorem cells3 (w : World) (a b c : Value) (T : TypeId) : (w.alloc (.cells #[a, b, c] T)).cell? ⟨w.heap.size, 0, none⟩ = some a ∧ (w.alloc (.cells #[a, b, c] T)).cell? ⟨w.heap.size, 1, none⟩ = some b ∧ (w.alloc (.cells #[a, b, c] T)).cell? ⟨w.heap.size, 2, none⟩ = some c := by
  have := heap_alloc_new w (.cells #[a, b, c] T)
  refine ⟨?_, ?_, ?_⟩ <;> (unfold World.cell?; rw [this]; rfl)

theorem nearB_16 {g : List (List Int)} (hok : GOk g) {L : List Int} {v : Nat} (hv : v < g.length) (b : Int) : (nearB g L v b).length ≤ 16 :=
  Nat.le_trans (nearB_len g L v b) (gOk_row_le hok v hv)

theorem goP_one {g : List (List Int)} {L : List Int} {v : Nat} (hL : ∀ x ∈ L, 0 ≤ x) : GoP g L v (-1) 1 ↔ (nearB g L v (-1)).length = 0 := by
  rw [nearB_nil]
  constructor
  · rintro (⟨_, _, h⟩ | ⟨h, _⟩)
    · intro x hx hr
      rw [Int.toNat_natCast] at h
      exact absurd hr (h x hx)
    · have := hL _ h; omega
  · intro h
    refine .inl ⟨rfl, rfl, fun x hx hr => ?_⟩
    rw [Int.toNat_natCast] at hr
    have := h x hx hr
    have := hL x hx
    omega
theorem goP_two {g : List (List Int)} (hok : GOk g) {L : List Int} {v b : Nat} (hv : v < g.length) (hb : (b : Int) ∈ L) (hvb : b ≠ v) :
    GoP g L v b 2 ↔ (b : Int) ∈ row g v ∧ (nearB g L v b).length = 0 := by
  rw [nearB_nil]
  constructor
  · rintro (⟨h, _⟩ | ⟨_, _, h⟩)
    · omega
    · rcases h with ⟨_, h⟩ | ⟨h, _⟩ | ⟨h, _⟩
      · simp only [Int.toNat_natCast] at h
        exact ⟨(h _ hb).2 rfl, fun x hx hr => (h x hx).1 hr⟩
      · omega
      · omega
  · rintro ⟨h1, h2⟩
    refine .inr ⟨hb, by omega, .inl ⟨rfl, fun x hx => ?_⟩⟩
    rw [Int.toNat_natCast]
    exact ⟨fun hr => h2 x hx hr, fun e => by subst e; exact h1⟩
theorem goP_three {g : List (List Int)} (hok : GOk g) {L : List Int} {v b : Nat} (hv : v < g.length) (hbl : b < g.length) (hvL : (v : Int) ∈ L) (hb : (b : Int) ∈ L) (hvb : b ≠ v) :
    GoP g L v b 3 ↔ (b : Int) ∉ row g v ∧ nearB g L v b = nearB g L b v := by
  rw [nearB_same hok hv hbl hvL hb (fun e => hvb e.symm)]
  constructor
  · rintro (⟨h, _⟩ | ⟨_, _, h⟩)
    · omega
    · rcases h with ⟨h, _⟩ | ⟨_, h⟩ | ⟨h, _⟩
      · omega
      · simpa only [Int.toNat_natCast] using h
      · omega
  · intro h
    exact .inr ⟨hb, by omega, .inr (.inl ⟨rfl, by simpa only [Int.toNat_natCast] using h⟩)⟩
theorem goP_four {g : List (List Int)} (hok : GOk g) {L : List Int} {v b : Nat} (hv : v < g.length) (hbl : b < g.length) (hvL : (v : Int) ∈ L) (hb : (b : Int) ∈ L) (hvb : b ≠ v) :
    GoP g L v b 4 ↔ (b : Int) ∈ row g v ∧ nearB g L v b = nearB g L b v := by
  rw [nearB_same hok hv hbl hvL hb (fun e => hvb e.symm)]
  constructor
  · rintro (⟨h, _⟩ | ⟨_, _, h⟩)
    · omega
    · rcases h with ⟨h, _⟩ | ⟨h, _⟩ | ⟨_, h⟩
      · omega
      · omega
      · simpa only [Int.toNat_natCast] using h
  · intro h
    exact .inr ⟨hb, by omega, .inr (.inr ⟨rfl, by simpa only [Int.toNat_natCast] using h⟩)⟩
theorem goP_self {g : List (List Int)} {L : List Int} {v k : Int} (hk : 2 ≤ k) : ¬ GoP g L v v k := by
  rintro (⟨h, _⟩ | ⟨_, h, _⟩)
  · omega
  · exact h rfl

end Go.Proofs.YtkppbmfliejnmaaDoor

/- Walk: the reference's first prune of a vertex. -/
namespace Go.Proofs.YtkppbmfliejnmaaDoor
open Go.RowKit

/-- A block of three cells. -/
structure Box3 (w : World) (b : Nat) (T : TypeId) (x y z : Value) : Prop where
  blk : w.heap[b]? = some (.cells #[x, y, z] T (0, 0))
theorem Box3.cells {w : World} {b : Nat} {T : TypeId} {x y z : Value} (h : Box3 w b T x y z) : w.cell? ⟨b, 0, none⟩ = some x ∧ w.cell? ⟨b, 1, none⟩ = some y ∧ w.cell? ⟨b, 2, none⟩ = some z := by
  refine ⟨?_, ?_, ?_⟩ <;> (unfold World.cell?; rw [h.blk]; rfl)
theorem Box3.free {w : World} {b : Nat} {T : TypeId} {x y z : Value} (h : Box3 w b T x y z) (i : Nat) : w.frozen? ⟨b, i, none⟩ = false := by simp [World.frozen?, h.blk]
theorem Box3.lt {w : World} {b : Nat} {T : TypeId} {x y z : Value} (h : Box3 w b T x y z) : b < w.heap.size := lt_of_block h.blk
theorem Box3.new (w : World) (x y z : Value) (T : TypeId) : Box3 (w.alloc (.cells #[x, y, z] T)) w.heap.size T x y z := ⟨heap_alloc_new w _⟩
theorem Box3.below {w w' : World} {b : Nat} {T : TypeId} {x y z : Value} {B : Nat} (h : Box3 w b T x y z) (hb : Below B w w') (hB : b < B) : Box3 w' b T x y z := ⟨(hb.block b hB).trans h.blk⟩
theorem Box3.keep {w w' : World} {b : Nat} {T : TypeId} {x y z : Value} (h : Box3 w b T x y z) (hb : Below w.heap.size w w') : Box3 w' b T x y z := h.below hb h.lt
theorem Box3.set {w : World} {b : Nat} {T : TypeId} {x y z : Value} (h : Box3 w b T x y z) (p q r : Value) : Box3 (((w.setCell ⟨b, 0, none⟩ p).setCell ⟨b, 1, none⟩ q).setCell ⟨b, 2, none⟩ r) b T p q r := by
  constructor
  have h1 := heap_setCell_same w b 0 _ T p h.blk
  have h2 := heap_setCell_same _ b 1 _ T q h1
  have h3 := heap_setCell_same _ b 2 _ T r h2
  simpa using h3
theorem set3_belowP {B f : Nat} (w : World) (a b c : Value) (h : B ≤ f) : Below B w (((w.setCell ⟨f, 0, none⟩ a).setCell ⟨f, 1, none⟩ b).setCell ⟨f, 2, none⟩ c) :=
  (((Below.refl _ _).setCell h a).setCell h b).setCell h c

def prOut : Option Pr → Value
  | none => .agg #[.int .i64 0, .int .i64 0, .int .i64 0]
  | some p => .agg #[.int .i64 p.V, .int .i64 p.B, .int .i64 p.K]

theorem goP_none_step {g : List (List Int)} {L : List Int} {v K : Int} (hL : L.Pairwise (· < ·)) (h1 : 2 ≤ K) (h : ∀ j (hj : j < L.length), ¬ GoP g L v L[j] K) : ∀ b, ¬ GoP g L v b K := by
  intro b hb
  rcases id hb with ⟨e, _⟩ | ⟨hm, _⟩
  · omega
  · obtain ⟨j, hj, e⟩ := List.getElem_of_mem hm
    exact h j hj (by rw [e]; exact hb)
theorem goP_lt {g : List (List Int)} {L : List Int} {v K : Int} (hL : L.Pairwise (· < ·)) (h1 : 2 ≤ K) {t : Nat} (ht : t < L.length) (h : ∀ j (hj : j < L.length), j < t → ¬ GoP g L v L[j] K) : ∀ b, b < L[t] → ¬ GoP g L v b K := by
  intro b hb hgo
  rcases id hgo with ⟨e, _⟩ | ⟨hm, _⟩
  · omega
  · obtain ⟨j, hj, e⟩ := List.getElem_of_mem hm
    refine h j hj ?_ (by rw [e]; exact hgo)
    refine Classical.byContradiction fun hn => ?_
    rcases Nat.lt_or_ge t j with h2 | h2
    · have := List.pairwise_iff_getElem.1 hL t j ht hj h2
      omega
    · obtain rfl : t = j := by omega
      omega

end Go.Proofs.YtkppbmfliejnmaaDoor

/- Rows of prunes: what a slice of them reads as. -/
namespace Go.Proofs.YtkppbmfliejnmaaDoor
open Go.RowKit

/-- The cells of some prunes. -/
def prCells (l : List Pr) : List Value := l.flatMap fun f => [.int .i64 f.V, .int .i64 f.B, .int .i64 f.K]
theorem prCells_snoc (l : List Pr) (f : Pr) : prCells (l ++ [f]) = prCells l ++ [.int .i64 f.V, .int .i64 f.B, .int .i64 f.K] := by simp [prCells]
theorem prCells_length (l : List Pr) : (prCells l).length = l.length * 3 := by
  induction l with
  | nil => rfl
  | cons f l ih => simp only [prCells, List.flatMap_cons, List.length_append, List.length_cons, List.length_nil] at ih ⊢; omega


theorem prCells_get (fs : List Pr) : ∀ {k : Nat} (hk : k < fs.length), (prCells fs)[k * 3]? = some (.int .i64 fs[k].V) ∧ (prCells fs)[k * 3 + 1]? = some (.int .i64 fs[k].B) ∧ (prCells fs)[k * 3 + 2]? = some (.int .i64 fs[k].K) := by
  induction fs with
  | nil => intro k hk; simp at hk
  | cons f fs ih =>
    intro k hk
    have e : prCells (f :: fs) = .int .i64 f.V :: .int .i64 f.B :: .int .i64 f.K :: prCells fs := rfl
    rw [e]
    cases k with
    | zero => exact ⟨rfl, rfl, rfl⟩
    | succ k =>
      obtain ⟨h1, h2, h3⟩ := ih (k := k) (by simpa using hk)
      rw [show (k + 1) * 3 = k * 3 + 1 + 1 + 1 by omega, show k * 3 + 1 + 1 + 1 + 1 = k * 3 + 1 + 1 + 1 + 1 from rfl, show k * 3 + 1 + 1 + 1 + 2 = k * 3 + 2 + 1 + 1 + 1 by omega]
      simp only [List.getElem?_cons_succ, List.getElem_cons_succ]
      exact ⟨h1, h2, h3⟩
end Go.Proofs.YtkppbmfliejnmaaDoor

/- Walks: the reference prunes. -/
namespace Go.Proofs.YtkppbmfliejnmaaDoor
open Go.RowKit

theorem exists_min {P : Int → Prop} {lo : Int} (hlo : ∀ b, P b → lo ≤ b) : ∀ (n : Nat), (∃ b, P b ∧ (b - lo).toNat ≤ n) → ∃ b, P b ∧ ∀ c, c < b → ¬ P c
  | 0, ⟨b, hb, hn⟩ => ⟨b, hb, fun c hc h => by have := hlo c h; have := hlo b hb; omega⟩
  | n + 1, ⟨b, hb, hn⟩ => by
    by_cases h : ∃ c, c < b ∧ P c
    · obtain ⟨c, hc, hp⟩ := h
      exact exists_min hlo n ⟨c, hp, by have := hlo c hp; have := hlo b hb; omega⟩
    · exact ⟨b, hb, fun c hc hp => h ⟨c, hc, hp⟩⟩
theorem prS_ex {g : List (List Int)} {L : List Int} {v : Int} (hL : ∀ x ∈ L, 0 ≤ x) : ∃ r, PrS g L v r := by
  by_cases h : ∃ k b, GoP g L v b k
  · obtain ⟨k0, b0, h0⟩ := h
    obtain ⟨k, ⟨b1, hb1⟩, hk⟩ := exists_min (P := fun k => ∃ b, GoP g L v b k) (lo := 1) (fun k ⟨b, hb⟩ => (goP_kind hb).1) _ ⟨k0, ⟨b0, h0⟩, Nat.le_refl _⟩
    obtain ⟨b, hb, hbm⟩ := exists_min (P := fun b => GoP g L v b k) (lo := -1) (fun b hb => by
      rcases hb with ⟨_, h, _⟩ | ⟨h, _⟩
      · omega
      · have := hL b h; omega) _ ⟨b1, hb1, Nat.le_refl _⟩
    refine ⟨some ⟨v, b, k⟩, rfl, hb, ?_⟩
    rintro k' b' (h | ⟨h, h2⟩) hgo
    · exact hk k' h ⟨b', hgo⟩
    · simp only at h h2
      subst h
      exact hbm b' h2 hgo
  · exact ⟨none, fun k b hb => h ⟨k, b, hb⟩⟩

end Go.Proofs.YtkppbmfliejnmaaDoor

/- Walks: l17Splits, l17Splitter (the reference's modules). -/
namespace Go.Proofs.YtkppbmfliejnmaaDoor
open Go.RowKit

/-- How many of the first k are neighbours. -/
def cntM (g : List (List Int)) (v : Nat) (L : List Nat) (k : Nat) : Nat := ((L.take k).filter fun (j : Nat) => decide (((j : Nat) : Int) ∈ row g v)).length
theorem cntM_le (g : List (List Int)) (v : Nat) (L : List Nat) (k : Nat) : cntM g v L k ≤ k := Nat.le_trans (List.length_filter_le _ _) (by rw [List.length_take]; omega)
theorem cntM_succ {g : List (List Int)} {v k : Nat} {L : List Nat} (h : k < L.length) : cntM g v L (k + 1) = if ((L[k] : Nat) : Int) ∈ row g v then cntM g v L k + 1 else cntM g v L k := by
  unfold cntM
  rw [take_snoc _ k h, List.filter_append, List.length_append]
  by_cases hm : ((L[k] : Nat) : Int) ∈ row g v
  · rw [if_pos hm]; simp [hm]
  · rw [if_neg hm]; simp [hm]
theorem cntM_zero {g : List (List Int)} (hg : GOk g) {v s : Nat} (hv : v < g.length) (hs : s < 65536) : cntM g v (bitsOf s) (bitsOf s).length = 0 ↔ mask (row g v) &&& s = 0 := by
  unfold cntM
  rw [List.take_length, List.length_eq_zero_iff, List.filter_eq_nil_iff]
  constructor
  · intro h
    refine Nat.eq_of_testBit_eq fun j => ?_
    rw [Nat.testBit_and, Nat.zero_testBit]
    by_cases hj : s.testBit j = true
    · have := h j ((mem_bitsOf' (by omega)).2 hj)
      rw [decide_eq_true_iff, ← testBit_row hg hv] at this
      simp [this]
    · simp [hj]
  · intro h j hj
    rw [decide_eq_true_iff, ← testBit_row hg hv]
    intro hb
    have := congrArg (fun z => z.testBit j) h
    simp only [Nat.testBit_and, Nat.zero_testBit, hb, (mem_bitsOf' (by omega)).1 hj] at this
    exact nomatch this
theorem cntM_all {g : List (List Int)} (hg : GOk g) {v s : Nat} (hv : v < g.length) (hs : s < 65536) : cntM g v (bitsOf s) (bitsOf s).length = (bitsOf s).length ↔ mask (row g v) &&& s = s := by
  unfold cntM
  rw [List.take_length, List.length_filter_eq_length_iff]
  constructor
  · intro h
    refine Nat.eq_of_testBit_eq fun j => ?_
    rw [Nat.testBit_and]
    by_cases hj : s.testBit j = true
    · have := h j ((mem_bitsOf' (by omega)).2 hj)
      rw [decide_eq_true_iff, ← testBit_row hg hv] at this
      simp [this]
    · simp [hj]
  · intro h j hj
    rw [decide_eq_true_iff, ← testBit_row hg hv]
    have hb := (mem_bitsOf' (by omega : s < 4294967296)).1 hj
    have := congrArg (fun z => z.testBit j) h
    simp only [Nat.testBit_and, hb, Bool.and_true] at this
    exact this
/-- v splits s. -/
def SplN (g : List (List Int)) (v s : Nat) : Prop := ¬ (mask (row g v) &&& s = 0 ∨ mask (row g v) &&& s = s)
theorem spl_cnt {g : List (List Int)} (hg : GOk g) {v s : Nat} (hv : v < g.length) (hs : s < 65536) : SplN g v s ↔ 0 < cntM g v (bitsOf s) (bitsOf s).length ∧ cntM g v (bitsOf s) (bitsOf s).length < (bitsOf s).length := by
  have h1 := cntM_zero hg hv hs
  have h2 := cntM_all hg hv hs
  have h3 := cntM_le g v (bitsOf s) (bitsOf s).length
  unfold SplN
  rw [← h1, ← h2]
  omega
theorem mod_iff {g : List (List Int)} {s : Nat} : ModN g s ↔ ∀ v, v < g.length → ¬ (s.testBit v = false ∧ SplN g v s) := by
  unfold ModN SplN
  constructor
  · intro h v hv ⟨h1, h2⟩
    exact h2 (h v hv h1)
  · intro h v hv h1
    exact Decidable.byContradiction fun h2 => h v hv ⟨h1, h2⟩

end Go.Proofs.YtkppbmfliejnmaaDoor

/- Walks: splitters. -/
namespace Go.Proofs.YtkppbmfliejnmaaDoor
open Go.RowKit

theorem nums_atA {w : World} {E : TypeId} {p : Option Addr} {m c : Nat} {xs : List Int} (h : Nums w E .i64 (.slice p m c) xs) : At w E p (xs.map (Value.int .i64)) := by
  obtain ⟨p', c', e, _, _, _, hat⟩ := h
  simp only [Value.slice.injEq] at e
  obtain ⟨rfl, _, _⟩ := e
  exact hat
end Go.Proofs.YtkppbmfliejnmaaDoor

/- Walks: size (math/bits.OnesCount32 at sets of eight), bySize. -/
namespace Go.Proofs.YtkppbmfliejnmaaDoor
open Go.RowKit Go.Sort

theorem pop8_bits : ∀ n : Fin 256, Lib.pop8 (n.val : Int) = ((bitsOf n.val).length : Int) := by decide +kernel

set_option maxRecDepth 100000 in
set_option maxHeartbeats 1000000 in
theorem ones_any (s : Nat) (hs : s < 256) (w : World) :
    Calls Tryd.prog 233 #[.int .u32 s] w fun e w' => e = .returned (.int .i64 (bitsOf s).length) ∧ ∃ q, w' = w.drewN q := by
  have h24 : (s : Int) / 16777216 = 0 := by omega
  have h16 : (s : Int) / 65536 = 0 := by omega
  have h8 : (s : Int) / 256 = 0 := by omega
  have k24 : (s : Int) / 2 ^ 24 = 0 := by omega
  have k16 : (s : Int) / 2 ^ 16 = 0 := by omega
  have k8 : (s : Int) / 2 ^ 8 = 0 := by omega
  have a0 : bits BinOp.and IntKind.u32 0 255 = 0 := by decide
  have a255 : bits BinOp.and IntKind.u32 (s : Int) 255 = (s : Int) := by
    have e := u32_and_nat s 255 (by omega) (by decide)
    have e2 : s &&& 255 = s := by
      have := Nat.and_two_pow_sub_one_eq_mod s 8
      rw [show (2 ^ 8 - 1 : Nat) = 255 by decide] at this
      omega
    rw [e2] at e
    exact e
  have HH : Hid ((Lib.pop8 0 + Lib.pop8 0 + Lib.pop8 0 + Lib.pop8 (s : Int)) % 256 = ((bitsOf s).length : Int)) := Lib.hid (by
    have e0 : Lib.pop8 0 = 0 := by decide +kernel
    have e1 := pop8_bits ⟨s, hs⟩
    have e2 := bitsOf_length s
    simp only at e1
    rw [e0, e1]
    omega)
  have i0 : (0 : Int) ≤ (s : Int) := by omega
  have i1 : (s : Int) ≤ 255 := by omega
  go_enter Tryd.func233, Tryd.ntmps233
  go_wp2
  go_quiet (fail)
  go_wp2
  go_ret
  exact ⟨by rw [← HH.out]; rfl, _, rfl⟩

set_option maxHeartbeats 400000 in
theorem size_any (s : Nat) (hs : s < 256) (w : World) :
    Calls Tryd.prog 191 #[.int .u32 s] w fun e w' => e = .returned (.int .i64 (bitsOf s).length) ∧ ∃ q, w' = w.drewN q := by
  go_enter Tryd.func191, Tryd.ntmps191
  go_wp2_with (go_at_call 233; refine (ones_any s hs _).mono ?_; rintro e w2 ⟨rfl, q, rfl⟩)
  go_ret
  exact ⟨rfl, _, rfl⟩

/-- How two sets stand by size, then as lists. -/
noncomputable def cmpS (a b : List Nat) : Int := if a.length = b.length then cmpL a b else (a.length : Int) - b.length
theorem cmpS_lt {a b : List Nat} : cmpS a b < 0 ↔ lessP a b := by
  unfold cmpS lessP
  by_cases h : a.length = b.length
  · rw [if_pos h, cmpL_lt]
    exact ⟨fun k => .inr ⟨h, k⟩, fun k => k.elim (fun k => by omega) fun k => k.2⟩
  · rw [if_neg h]
    exact ⟨fun k => .inl (by omega), fun k => k.elim (fun k => by omega) fun k => absurd k.1 h⟩

set_option maxRecDepth 100000 in
set_option maxHeartbeats 1000000 in
theorem bySize_any (s t : Nat) (hs : s < 256) (ht : t < 256) (w : World) (hT : Tab w) :
    Calls Tryd.prog 112 #[.int .u32 s, .int .u32 t] w fun e w' => e = .returned (.int .i64 (cmpS (bitsOf s) (bitsOf t))) ∧ Below w.heap.size w w' ∧ w.drawn ≤ w'.drawn := by
  have HT := Lib.hid hT
  have h1 := bitsOf_length s
  have h2 := bitsOf_length t
  clear hT
  obtain ⟨a, ha⟩ : ∃ a, a = (bitsOf s).length := ⟨_, rfl⟩
  obtain ⟨b, hb⟩ : ∃ b, b = (bitsOf t).length := ⟨_, rfl⟩
  rw [← ha] at h1
  rw [← hb] at h2
  have HA := Lib.hid ha
  have HB := Lib.hid hb
  clear ha hb
  by_cases h : a = b
  · have hn : ((a : Int) != (b : Int)) = false := by simp [h]
    have HC : Hid (cmpS (bitsOf s) (bitsOf t) = cmpL (bitsOf s) (bitsOf t)) := Lib.hid (if_pos (by rw [← HA.out, ← HB.out]; exact h))
    clear h
    go_enter Tryd.func112, Tryd.ntmps112
    go_wp2_with (first
      | (go_at_call 188; refine (compareSets_any s t (by omega) (by omega) _ (HT.out.keep (below_dN (Below.refl _ _) _))).mono ?_; rintro e w4 ⟨rfl, hb4, hd4⟩)
      | (go_at_call 191; refine (size_any t ht _).mono ?_; rintro e w3 ⟨he3, q3, rfl⟩; rw [← HB.out] at he3; subst he3; have hq := q2)
      | (go_at_call 191; refine (size_any s hs _).mono ?_; rintro e w2 ⟨he2, q2, rfl⟩; rw [← HA.out] at he2; subst he2))
    go_ret
    exact ⟨by rw [HC.out]; rfl, (below_dN (Below.refl _ _) (q2 + q3)).trans hb4, by have hd : w.drawn + (q2 + q3) ≤ w4.drawn := hd4; omega⟩
  · have hn : ((a : Int) != (b : Int)) = true := by simp; omega
    have HC : Hid (cmpS (bitsOf s) (bitsOf t) = (a : Int) - (b : Int)) := Lib.hid (by rw [HA.out, HB.out]; exact if_neg (by rw [← HA.out, ← HB.out]; exact h))
    have i1 : (a : Int) ≤ 32 := by omega
    have i2 : (b : Int) ≤ 32 := by omega
    clear h
    go_enter Tryd.func112, Tryd.ntmps112
    go_wp2_with (first
      | (go_at_call 191; refine (size_any t ht _).mono ?_; rintro e w5 ⟨he5, q5, rfl⟩; rw [← HB.out] at he5; subst he5; have hq := q4)
      | (go_at_call 191; refine (size_any s hs _).mono ?_; rintro e w4 ⟨he4, q4, rfl⟩; rw [← HA.out] at he4; subst he4; have hq := q3)
      | (go_at_call 191; refine (size_any t ht _).mono ?_; rintro e w3 ⟨he3, q3, rfl⟩; rw [← HB.out] at he3; subst he3; have hq := q2)
      | (go_at_call 191; refine (size_any s hs _).mono ?_; rintro e w2 ⟨he2, q2, rfl⟩; rw [← HA.out] at he2; subst he2))
    go_ret
    refine ⟨by rw [HC.out]; rfl, below_dN (Below.refl _ _) _, ?_⟩
    show w.drawn ≤ w.drawn + _
    omega

end Go.Proofs.YtkppbmfliejnmaaDoor
