/- Walks: what the exact laws do with their arguments and results: size, copy, compare, mark, hold. -/
import Derived.Test.YtkppbmfliejnmaaDoorLpQ4
import Derived.Deep.RegionWith
import Derived.Test.YtkppbmfliejnmaaDoorLpQ9
import Derived.Test.YtkppbmfliejnmaaDoorLpQ16
import Derived.Test.YtkppbmfliejnmaaDoorLpQ17
import Derived.Test.YtkppbmfliejnmaaDoorLpQ8
import Derived.Test.YtkppbmfliejnmaaDoorLpQ2
import Derived.Deep.RegionHeld
import Derived.Deep.RegionLaw
namespace Go.Proofs.YtkppbmfliejnmaaDoor
open Go.RowKit

/-- From p on lie the cells vals, whatever the block says of its elements: what an argument reads as. -/
def Cl (w : World) (p : Option Addr) (vals : List Value) : Prop :=
  vals = [] ∨ ∃ b o, p = some ⟨b, o, none⟩ ∧ ∀ j u, vals[j]? = some u → w.cell? ⟨b, o + j, none⟩ = some u
def ArgN (w : World) (v : Value) (xs : List Int) : Prop := ∃ p c, v = .slice p xs.length c ∧ xs.length ≤ 9223372036854775807 ∧ Cl w p (xs.map (Value.int .i64))
def ArgR (w : World) (v : Value) (g : List (List Int)) : Prop :=
  ∃ p c vals, v = .slice p g.length c ∧ g.length ≤ 9223372036854775807 ∧ vals.length = g.length ∧ Cl w p vals ∧ ∀ j, j < g.length → ArgN w (vals.getD j undef) (g.getD j [])
/-- A law's graph. -/
def ArgG (w : World) (v : Value) (g : List (List Int)) : Prop := ∃ u, v = .agg #[u] ∧ ArgR w u g

theorem Cl.below {w w' : World} {p : Option Addr} {vals : List Value} (h : Cl w p vals) (hb : Below w.heap.size w w') : Cl w' p vals := by
  rcases h with h | ⟨b, o, h1, h2⟩
  · exact .inl h
  · exact .inr ⟨b, o, h1, fun j u hu => hb.at' (h2 j u hu)⟩
theorem ArgN.below {w w' : World} {v : Value} {xs : List Int} (h : ArgN w v xs) (hb : Below w.heap.size w w') : ArgN w' v xs := by
  obtain ⟨p, c, h1, h2, h3⟩ := h
  exact ⟨p, c, h1, h2, h3.below hb⟩
theorem ArgR.below {w w' : World} {v : Value} {g : List (List Int)} (h : ArgR w v g) (hb : Below w.heap.size w w') : ArgR w' v g := by
  obtain ⟨p, c, vals, h1, h2, h3, h4, h5⟩ := h
  exact ⟨p, c, vals, h1, h2, h3, h4.below hb, fun j hj => (h5 j hj).below hb⟩
theorem ArgG.below {w w' : World} {v : Value} {g : List (List Int)} (h : ArgG w v g) (hb : Below w.heap.size w w') : ArgG w' v g := by
  obtain ⟨u, h1, h2⟩ := h
  exact ⟨u, h1, h2.below hb⟩
theorem Cl.get {w : World} {p : Option Addr} {vals : List Value} (h : Cl w p vals) {k : Nat} (hk : k < vals.length) : ∃ b o, p = some ⟨b, o, none⟩ ∧ w.cell? ⟨b, o + k, none⟩ = some vals[k] := by
  rcases h with h | ⟨b, o, h1, h2⟩
  · subst h; simp at hk
  · exact ⟨b, o, h1, h2 k _ (by simp [hk])⟩
theorem Cl.num {w : World} {p : Option Addr} {xs : List Int} (h : Cl w p (xs.map (Value.int .i64))) {k : Nat} (hk : k < xs.length) : ∃ b o, p = some ⟨b, o, none⟩ ∧ w.cell? ⟨b, o + k, none⟩ = some (.int .i64 xs[k]) := by
  obtain ⟨b, o, h1, h2⟩ := h.get (k := k) (by simpa using hk)
  exact ⟨b, o, h1, by rw [h2]; simp⟩
theorem ArgR.get {w : World} {p : Option Addr} {n c : Nat} {g : List (List Int)} (h : ArgR w (.slice p n c) g) {k : Nat} (hk : k < g.length) :
    ∃ b o rp rc, p = some ⟨b, o, none⟩ ∧ w.cell? ⟨b, o + k, none⟩ = some (.slice rp (row g k).length rc) ∧ ArgN w (.slice rp (row g k).length rc) (row g k) := by
  obtain ⟨p', c', vals, he, _, hl, hcl, hr⟩ := h
  simp only [Value.slice.injEq] at he
  obtain ⟨rfl, rfl, rfl⟩ := he
  obtain ⟨b, o, hp, hc⟩ := hcl.get (k := k) (by omega)
  have hrow := hr k hk
  have e : vals.getD k undef = vals[k] := by simp [hl, hk]
  rw [e] at hrow
  obtain ⟨rp, rc, hv, _⟩ := id hrow
  rw [hv] at hc hrow
  exact ⟨b, o, rp, rc, hp, hc, hrow⟩

theorem take_replicate_set {α : Type} (xs ys : List α) (k : Nat) (z : α) (hy : ys = xs.take k ++ List.replicate (xs.length - k) z) (hk : k < xs.length) :
    ys.set k xs[k] = xs.take (k + 1) ++ List.replicate (xs.length - (k + 1)) z := by
  subst hy
  have hl : (xs.take k).length = k := by rw [List.length_take]; omega
  have e : xs.length - k = (xs.length - (k + 1)) + 1 := by omega
  rw [List.set_append, if_neg (by omega), hl, Nat.sub_self, e, List.replicate_succ, List.set_cons_zero, take_snoc xs k hk, List.append_assoc]
  rfl

end Go.Proofs.YtkppbmfliejnmaaDoor

/- Walks: what the exact laws do with their arguments and results, second part. -/
namespace Go.Proofs.YtkppbmfliejnmaaDoor
open Go.RowKit

/-- A slice of rows, each of its own, all in blocks from base on. -/
def OwnRws (w : World) (base : Nat) (v : Value) (g : List (List Int)) : Prop :=
  ∃ vals, vals.length = g.length ∧ w.ownsRow base 33 1 v g.length vals ∧ ∀ j, j < g.length → w.ownsRow base 2 1 (vals.getD j undef) (row g j).length ((row g j).map (Value.int .i64))
def OwnG (w : World) (base : Nat) (v : Value) (g : List (List Int)) : Prop := ∃ u, v = .agg #[u] ∧ OwnRws w base u g

theorem OwnRws.below {w w' : World} {base : Nat} {v : Value} {g : List (List Int)} (h : OwnRws w base v g) (hb : Below w.heap.size w w') : OwnRws w' base v g := by
  obtain ⟨vals, h1, h2, h3⟩ := h
  exact ⟨vals, h1, ownsRow_below h2 hb, fun j hj => ownsRow_below (h3 j hj) hb⟩
theorem OwnG.below {w w' : World} {base : Nat} {v : Value} {g : List (List Int)} (h : OwnG w base v g) (hb : Below w.heap.size w w') : OwnG w' base v g := by
  obtain ⟨u, h1, h2⟩ := h
  exact ⟨u, h1, h2.below hb⟩
theorem OwnRws.rws {w : World} {base : Nat} {v : Value} {g : List (List Int)} (h : OwnRws w base v g) (h1 : g.length ≤ 1000000000) (h2 : ∀ j, j < g.length → (row g j).length ≤ 1000000000) : Rws w 33 2 v g := by
  obtain ⟨vals, e1, e2, e3⟩ := h
  exact ⟨vals, e1, Sl.of_owns e2 h1, fun j hj => Nums.of_owns (e3 j hj) rfl (h2 j hj)⟩
theorem OwnG.gr {w : World} {base : Nat} {v : Value} {g : List (List Int)} (h : OwnG w base v g) (h1 : g.length ≤ 1000000000) (h2 : ∀ j, j < g.length → (row g j).length ≤ 1000000000) : Gr w v g := by
  obtain ⟨u, e1, e2⟩ := h
  exact ⟨u, e1, e2.rws h1 h2⟩

theorem OwnRws.set {w : World} {base : Nat} {v : Value} {g : List (List Int)} (h : OwnRws w base v g) {a : Addr} (ha : a.block < base) (u : Value) : OwnRws (w.setCell a u) base v g := by
  obtain ⟨vals, h1, h2, h3⟩ := h
  exact ⟨vals, h1, ownsRow_setCell_below h2 ha u, fun j hj => ownsRow_setCell_below (h3 j hj) ha u⟩
theorem OwnRws.lower {w : World} {base base' : Nat} {v : Value} {g : List (List Int)} (h : OwnRws w base v g) (hb : base' ≤ base) : OwnRws w base' v g := by
  obtain ⟨vals, h1, h2, h3⟩ := h
  exact ⟨vals, h1, ownsRow_base h2 hb, fun j hj => ownsRow_base (h3 j hj) hb⟩
theorem OwnG.lower {w : World} {base base' : Nat} {v : Value} {g : List (List Int)} (h : OwnG w base v g) (hb : base' ≤ base) : OwnG w base' v g := by
  obtain ⟨u, h1, h2⟩ := h
  exact ⟨u, h1, h2.lower hb⟩

theorem getD_set_self {α : Type} (l : List α) (k : Nat) (x d : α) (h : k < l.length) : (l.set k x).getD k d = x := by simp [h]
theorem getD_set_other {α : Type} (l : List α) (k j : Nat) (x d : α) (h : k ≠ j) : (l.set k x).getD j d = l.getD j d := by simp [h]

end Go.Proofs.YtkppbmfliejnmaaDoor

/- Walks: what the exact laws do with their arguments and results, third part. -/
namespace Go.Proofs.YtkppbmfliejnmaaDoor
open Go.RowKit

/-- The marks k, k + 1, .. -/
def marks (k : Int) (n : Nat) : List Int := (List.range n).map fun (i : Nat) => k + (i : Int)
theorem marks_length (k : Int) (n : Nat) : (marks k n).length = n := by simp [marks]
theorem marks_succ (k : Int) (n : Nat) : marks k (n + 1) = marks k n ++ [k + n] := by simp [marks, List.range_succ]

theorem set_marks (ys : List Value) (n k : Nat) (m : Int) (hy : ys.length = n) (hk : k < n) :
    (((marks m k).map (Value.int .i64)) ++ ys.drop k).set k (.int .i64 (m + k)) = ((marks m (k + 1)).map (Value.int .i64)) ++ ys.drop (k + 1) := by
  have hl : ((marks m k).map (Value.int .i64)).length = k := by simp [marks_length]
  rw [List.set_append, if_neg (by omega), hl, Nat.sub_self, marks_succ, List.map_append, List.append_assoc]
  congr 1
  rw [List.drop_eq_getElem_cons (by omega)]
  rfl

end Go.Proofs.YtkppbmfliejnmaaDoor

/- Walks: marking a graph; what stays apart from it. -/
namespace Go.Proofs.YtkppbmfliejnmaaDoor
open Go.RowKit

/-- Only blocks from lo on and below hi have turned. -/
structure Apart (lo hi : Nat) (w w' : World) : Prop where
  os : w'.os = w.os
  tape : w'.tape = w.tape
  output : w'.output = w.output
  size : w.heap.size ≤ w'.heap.size
  block : ∀ b, b < w.heap.size → (b < lo ∨ hi ≤ b) → w'.heap[b]? = w.heap[b]?

theorem Apart.refl (lo hi : Nat) (w : World) : Apart lo hi w w := ⟨rfl, rfl, rfl, Nat.le_refl _, fun _ _ _ => rfl⟩
theorem Apart.trans {lo hi : Nat} {a b c : World} (h : Apart lo hi a b) (k : Apart lo hi b c) : Apart lo hi a c :=
  ⟨k.os.trans h.os, k.tape.trans h.tape, k.output.trans h.output, Nat.le_trans h.size k.size, fun i hi hn => (k.block i (Nat.lt_of_lt_of_le hi h.size) hn).trans (h.block i hi hn)⟩
theorem Apart.of_below {lo hi : Nat} {w w' : World} (h : Below w.heap.size w w') : Apart lo hi w w' := ⟨h.os, h.tape, h.output, h.size, fun b hb _ => h.block b hb⟩
theorem Apart.below {lo hi : Nat} {w w' : World} (h : Apart lo hi w w') (hl : lo ≤ w.heap.size) : Below lo w w' := ⟨h.os, h.tape, h.output, h.size, fun b hb => h.block b (by omega) (.inl hb)⟩
theorem Apart.of_grown {lo hi : Nat} {w w' : World} {base : Nat} {E : TypeId} {size n : Nat} {v : Value} {xs : List Value} (ho : w.ownsRow base E size v n xs) (hg : w.grownBy w' v.ownBlock) (h1 : lo ≤ base) (h2 : ∀ k, v.ownBlock = some k → k < hi) : Apart lo hi w w' :=
  ⟨hg.os, hg.tape, hg.output, hg.size, fun b hb hx => hg.block b hb fun e => by
    have h3 := (ho.lt b e.symm).1
    have h4 := h2 b e.symm
    omega⟩

theorem ownsRow_apart_lo {lo hi : Nat} {w w' : World} {base : Nat} {E : TypeId} {size n : Nat} {v : Value} {xs : List Value} (h : w.ownsRow base E size v n xs) (ha : Apart lo hi w w') (hl : ∀ k, v.ownBlock = some k → k < lo) : w'.ownsRow base E size v n xs := by
  refine ⟨h.1, ?_⟩
  rcases h.2 with h2 | ⟨g, cap, cur, h1, h2, h3, h4⟩
  · exact .inl h2
  · exact .inr ⟨g, cap, cur, h1, h2, (ha.block g (Array.getElem?_eq_some_iff.1 h3).1 (.inl (hl g (by rw [h1]; rfl)))).trans h3, h4⟩
theorem ownsRow_apart_hi {lo hi : Nat} {w w' : World} {base : Nat} {E : TypeId} {size n : Nat} {v : Value} {xs : List Value} (h : w.ownsRow base E size v n xs) (ha : Apart lo hi w w') (hl : hi ≤ base) : w'.ownsRow base E size v n xs := by
  refine ⟨h.1, ?_⟩
  rcases h.2 with h2 | ⟨g, cap, cur, h1, h2, h3, h4⟩
  · exact .inl h2
  · exact .inr ⟨g, cap, cur, h1, h2, (ha.block g (Array.getElem?_eq_some_iff.1 h3).1 (.inr (by omega))).trans h3, h4⟩

/-- A row, whatever it holds, behind a write to a row of the same kind. -/
theorem ownsRow_some {w w' : World} {base : Nat} {E : TypeId} {n m : Nat} {v u : Value} {ys zs zs' : List Value} (h : w.ownsRow base E 1 v n ys)
    (ho : w.ownsRow base E 1 u m zs) (ho' : w'.ownsRow base E 1 u m zs') (hg : w.grownBy w' u.ownBlock) : ∃ ys', w'.ownsRow base E 1 v n ys' := by
  rcases h.2 with ⟨rfl, rfl⟩ | ⟨g, cap, cur, rfl, hb, hgg, hnc, hcm, hcs, ht⟩
  · exact ⟨[], World.ownsRow_nil _ _ _ _⟩
  · by_cases e : u.ownBlock = some g
    · rcases ho.2 with ⟨rfl, rfl⟩ | ⟨g1, cap1, cur1, rfl, _, hg1, _, _, hcs1, _⟩
      · simp [Value.ownBlock] at e
      · simp [Value.ownBlock] at e
        subst e
        rcases ho'.2 with ⟨h', _⟩ | ⟨g2, cap2, cur2, h2, hb2, hg2, _, _, hcs2, _⟩
        · simp at h'
        · simp only [Value.slice.injEq, Option.some.injEq, Addr.mk.injEq, and_true, true_and] at h2
          obtain ⟨rfl, rfl⟩ := h2
          rw [hgg] at hg1
          simp only [Option.some.injEq, Obj.cells.injEq] at hg1
          have hcc : cur2.size = cap * 1 := by rw [hcs2, ← hcs1, ← hg1.1, hcs]
          refine ⟨cur2.toList.take (n * 1), by rw [List.length_take, Array.length_toList]; omega, .inr ⟨g1, cap, cur2, rfl, hb, hg2, hnc, hcm, hcc, rfl⟩⟩
    · exact ⟨ys, h.kept hg (.inr (by simp only [Value.ownBlock]; exact fun q => e q.symm))⟩

/-- A graph in blocks from lo on and below hi. -/
def InG (w : World) (lo hi : Nat) (v : Value) (g : List (List Int)) : Prop :=
  ∃ u vals, v = .agg #[u] ∧ vals.length = g.length ∧ w.ownsRow lo 33 1 u g.length vals ∧ (∀ b, u.ownBlock = some b → b < hi) ∧
    ∀ j, j < g.length → w.ownsRow lo 2 1 (vals.getD j undef) (row g j).length ((row g j).map (Value.int .i64)) ∧ ∀ b, (vals.getD j undef).ownBlock = some b → b < hi

theorem InG.of_own {w : World} {lo : Nat} {v : Value} {g : List (List Int)} (h : OwnG w lo v g) : InG w lo w.heap.size v g := by
  obtain ⟨u, rfl, vals, h1, h2, h3⟩ := h
  exact ⟨u, vals, rfl, h1, h2, fun b hb => (h2.lt b hb).2, fun j hj => ⟨h3 j hj, fun b hb => ((h3 j hj).lt b hb).2⟩⟩
theorem InG.below {w w' : World} {lo hi : Nat} {v : Value} {g : List (List Int)} (h : InG w lo hi v g) (hb : Below w.heap.size w w') : InG w' lo hi v g := by
  obtain ⟨u, vals, h0, h1, h2, h3, h4⟩ := h
  exact ⟨u, vals, h0, h1, ownsRow_below h2 hb, h3, fun j hj => ⟨ownsRow_below (h4 j hj).1 hb, (h4 j hj).2⟩⟩
theorem InG.own {w : World} {lo hi : Nat} {v : Value} {g : List (List Int)} (h : InG w lo hi v g) : OwnG w lo v g := by
  obtain ⟨u, vals, h0, h1, h2, h3, h4⟩ := h
  exact ⟨u, h0, vals, h1, h2, fun j hj => (h4 j hj).1⟩

end Go.Proofs.YtkppbmfliejnmaaDoor

/- Walks: marking a graph whose rows lie apart, and looking at the marks. -/
namespace Go.Proofs.YtkppbmfliejnmaaDoor
open Go.RowKit

def preL (g : List (List Int)) : Nat → Nat
  | 0 => 0
  | j + 1 => preL g j + (row g j).length
theorem preL_le {g : List (List Int)} {m : Nat} (h : ∀ j, (row g j).length ≤ m) : ∀ j, preL g j ≤ j * m
  | 0 => by simp [preL]
  | j + 1 => by
    have h1 := preL_le h j
    have h2 := h j
    have : (j + 1) * m = j * m + m := Nat.succ_mul j m
    simp only [preL]; omega
/-- The graph of the marks k, k + 1, .. that a graph bears. -/
def markG (k : Int) (g : List (List Int)) : List (List Int) := (List.range g.length).map fun j => marks (k + preL g j) (row g j).length
theorem markG_length (k : Int) (g : List (List Int)) : (markG k g).length = g.length := by simp [markG]
theorem row_markG {k : Int} {g : List (List Int)} {j : Nat} (h : j < g.length) : row (markG k g) j = marks (k + preL g j) (row g j).length := by simp [row, markG, h]

/-- A graph of blocks of its own from base on and below hi. -/
def DGh (w : World) (base hi : Nat) (v : Value) (g : List (List Int)) : Prop :=
  ∃ u vals, v = .agg #[u] ∧ vals.length = g.length ∧ w.ownsRow base 33 1 u g.length vals ∧ Dis w base g.length vals g ∧ ∀ j, j < g.length → ∀ b, (vals.getD j undef).ownBlock = some b → b < hi
theorem DGh.of {w : World} {base : Nat} {v : Value} {g : List (List Int)} (h : DG w base v g) : DGh w base w.heap.size v g := by
  obtain ⟨u, vals, h1, h2, h3, h4⟩ := h
  exact ⟨u, vals, h1, h2, h3, h4, fun j hj b hb => ((h4.rows j hj).lt b hb).2⟩
theorem DGh.dg {w : World} {base hi : Nat} {v : Value} {g : List (List Int)} (h : DGh w base hi v g) : DG w base v g := by
  obtain ⟨u, vals, h1, h2, h3, h4, _⟩ := h
  exact ⟨u, vals, h1, h2, h3, h4⟩
theorem DGh.below {w w' : World} {base hi : Nat} {v : Value} {g : List (List Int)} (h : DGh w base hi v g) (hb : Below w.heap.size w w') : DGh w' base hi v g := by
  obtain ⟨u, vals, h1, h2, h3, h4, h5⟩ := h
  exact ⟨u, vals, h1, h2, ownsRow_below h3 hb, ⟨fun j hj => ownsRow_below (h4.rows j hj) hb, h4.dis⟩, h5⟩
theorem DGh.apart {w w' : World} {base hi lo' hi' : Nat} {v : Value} {g : List (List Int)} (h : DGh w base hi v g) (ha : Apart lo' hi' w w') (hl : hi' ≤ base) : DGh w' base hi v g := by
  obtain ⟨u, vals, h1, h2, h3, h4, h5⟩ := h
  exact ⟨u, vals, h1, h2, ownsRow_apart_hi h3 ha hl, ⟨fun j hj => ownsRow_apart_hi (h4.rows j hj) ha hl, h4.dis⟩, h5⟩
theorem Box.apart {w w' : World} {b lo hi : Nat} {T : TypeId} {v : Value} (h : Box w b T v) (ha : Apart lo hi w w') (hb : hi ≤ b) : Box w' b T v := .of ((ha.block b h.lt (.inr hb)).trans h.blk)

end Go.Proofs.YtkppbmfliejnmaaDoor

/- Walk: the program's distances, layer by layer. -/
namespace Go.Proofs.YtkppbmfliejnmaaDoor
open Go.RowKit

/-- The neighbours of some vertices. -/
def NgL (E : Nat → Nat → Bool) (L : List Nat) (x : Nat) : Prop := x < 65536 ∧ ∀ j, x.testBit j = true ↔ ∃ v ∈ L, E v j = true
theorem NgL.zero (E : Nat → Nat → Bool) : NgL E [] 0 := ⟨by decide, fun j => by simp⟩
theorem NgL.snoc {E : Nat → Nat → Bool} {L : List Nat} {x a v n : Nat} (h : NgL E L x) (ha : a < 65536) (hab : ∀ j, a.testBit j = (decide (j < n) && E v j)) (hE : ∀ j, E v j = true → j < n) : NgL E (L ++ [v]) (x ||| a) := by
  refine ⟨Nat.or_lt_two_pow (n := 16) h.1 ha, fun j => ?_⟩
  rw [Nat.testBit_or, Bool.or_eq_true, h.2, hab, Bool.and_eq_true, decide_eq_true_eq]
  constructor
  · rintro (⟨y, hy, e⟩ | ⟨_, e⟩)
    · exact ⟨y, List.mem_append_left _ hy, e⟩
    · exact ⟨v, by simp, e⟩
  · rintro ⟨y, hy, e⟩
    rcases List.mem_append.1 hy with h1 | h1
    · exact .inl ⟨y, h1, e⟩
    · obtain rfl : y = v := by simpa using h1
      exact .inr ⟨hE j e, e⟩
/-- A list with some places set. -/
def setL (D : List Int) (f : Int) (L : List Nat) : List Int := L.foldl (fun D u => D.set u f) D
theorem setL_snoc (D : List Int) (f : Int) (L : List Nat) (u : Nat) : setL D f (L ++ [u]) = (setL D f L).set u f := by simp [setL]
theorem setL_length (f : Int) : ∀ (L : List Nat) (D : List Int), (setL D f L).length = D.length
  | [], D => rfl
  | u :: L, D => by show (setL (D.set u f) f L).length = _; rw [setL_length f L, List.length_set]
theorem setL_at (f : Int) : ∀ (L : List Nat) (D : List Int) (u : Nat), u < D.length → (setL D f L).getD u 0 = if u ∈ L then f else D.getD u 0
  | [], D, u, h => by simp [setL]
  | v :: L, D, u, h => by
    show (setL (D.set v f) f L).getD u 0 = _
    rw [setL_at f L _ u (by rw [List.length_set]; exact h)]
    by_cases h1 : u ∈ L
    · simp [h1]
    · by_cases e : u = v
      · subst e; simp [h1, h]
      · simp [h1, e, List.getElem?_set, Ne.symm e]
def inW (W : Nat) : Nat → Prop := fun x => W.testBit x = true
/-- The layers so far. -/
structure LyI (E : Nat → Nat → Bool) (W n v g lay seen : Nat) (D : List Int) : Prop where
  s16 : seen < 65536
  l16 : lay < 65536
  snn : ∀ u, seen.testBit u = true ↔ LW E (inW W) v g u
  lyy : ∀ u, lay.testBit u = true ↔ LW E (inW W) v g u ∧ ∀ k, k < g → ¬ LW E (inW W) v k u
  len : D.length = n
  no : ∀ u, u < n → seen.testBit u = false → D.getD u 0 = -1
  yes : ∀ u, u < n → seen.testBit u = true → ∃ m : Nat, D.getD u 0 = m ∧ m ≤ 40 ∧ LW E (inW W) v m u ∧ ∀ k, k < m → ¬ LW E (inW W) v k u
  cnt : g ≤ (bitsOf seen).length
  cnt2 : lay ≠ 0 → g + 1 ≤ (bitsOf seen).length
theorem LyI.start {E : Nat → Nat → Bool} {W n v : Nat} (hv : W.testBit v = true) (hvn : v < n) (hn : n ≤ 16) : LyI E W n v 0 (2 ^ v) (2 ^ v) ((List.replicate n (-1)).set v 0) := by
  have hp : 2 ^ v < 65536 := pow_lt16 v (by omega)
  have hb : ∀ u, (2 ^ v).testBit u = true ↔ u = v := fun u => by
    rw [Nat.testBit_two_pow, decide_eq_true_eq]
    exact ⟨Eq.symm, Eq.symm⟩
  have hl : ∀ u, LW E (inW W) v 0 u ↔ u = v := fun u => ⟨fun h => by cases h; rfl, fun e => by subst e; exact .base hv⟩
  have hone : 1 ≤ (bitsOf (2 ^ v)).length := List.length_pos_iff.2 (List.ne_nil_of_mem ((mem_left hp).2 ((hb v).2 rfl)))
  refine ⟨hp, hp, fun u => (hb u).trans (hl u).symm, fun u => ?_, by simp, fun u hu h => ?_, fun u hu h => ?_, by omega, fun _ => by omega⟩
  · rw [hb, hl]; exact ⟨fun h => ⟨h, fun k hk => by omega⟩, fun h => h.1⟩
  · have : u ≠ v := fun e => by rw [(hb u).2 e] at h; cases h
    simp [List.getElem?_set, Ne.symm this, hu]
  · have e := (hb u).1 h
    subst e
    refine ⟨0, ?_, by omega, .base hv, fun k hk => by omega⟩
    simp [hu]
theorem or_bits {a b : Nat} (u : Nat) : (a ||| b).testBit u = true ↔ a.testBit u = true ∨ b.testBit u = true := by rw [Nat.testBit_or, Bool.or_eq_true]
theorem LyI.step {E : Nat → Nat → Bool} {W n v g lay seen nx : Nat} {D : List Int} (h : LyI E W n v g lay seen D) (h0 : lay ≠ 0) (hn : n ≤ 16) (hE : ∀ x y, E x y = true → y < n) (hv : inW W v) (hWn : ∀ u, W.testBit u = true → u < n) (hnx : NgL E (bitsOf lay) nx) {l2 : Nat} (hl2 : l2 = sub (nx &&& W) seen) :
    LyI E W n v (g + 1) l2 (seen ||| l2) (setL D ((g : Int) + 1) (bitsOf l2)) ∧ (l2 ≠ 0 → (bitsOf seen).length < (bitsOf (seen ||| l2)).length) ∧ (bitsOf seen).length ≤ (bitsOf (seen ||| l2)).length := by
  have hand : nx &&& W < 65536 := Nat.lt_of_le_of_lt Nat.and_le_left hnx.1
  have h216 : l2 < 65536 := by rw [hl2]; exact sub_lt16 _ _ hand
  have hs16 := h.s16
  have hb2 : ∀ u, l2.testBit u = true ↔ nx.testBit u = true ∧ W.testBit u = true ∧ seen.testBit u = false := fun u => by
    rw [hl2, testBit_sub _ _ (by omega) (by omega), Nat.testBit_and]
    cases nx.testBit u <;> cases W.testBit u <;> cases seen.testBit u <;> simp
  have h16 : seen ||| l2 < 65536 := Nat.or_lt_two_pow (n := 16) h.s16 h216
  have key : ∀ u, LW E (inW W) v (g + 1) u → ¬ LW E (inW W) v g u → l2.testBit u = true := fun u hu hno => by
    cases hu with
    | @step _ x _ h1 h2 h3 =>
      rcases h2 with rfl | h2
      · exact absurd h1 hno
      · rw [hb2]
        refine ⟨(hnx.2 u).2 ⟨x, (mem_left h.l16).2 ((h.lyy x).2 ⟨h1, fun k hk hk2 => hno ?_⟩), h2⟩, h3, ?_⟩
        · exact (LW.step hk2 (.inr h2) h3).le (by omega)
        · cases e : seen.testBit u with
          | false => rfl
          | true => exact absurd ((h.snn u).1 e) hno
  have back : ∀ u, l2.testBit u = true → LW E (inW W) v (g + 1) u ∧ ¬ LW E (inW W) v g u := fun u hu => by
    obtain ⟨a, b, c⟩ := (hb2 u).1 hu
    obtain ⟨x, hx, he⟩ := (hnx.2 u).1 a
    have hx := ((h.lyy x).1 ((mem_left h.l16).1 hx)).1
    exact ⟨.step hx (.inr he) b, fun hc => by rw [(h.snn u).2 hc] at c; cases c⟩
  have hlt : l2 ≠ 0 → (bitsOf seen).length < (bitsOf (seen ||| l2)).length := fun h0 => by
    obtain ⟨j, hj⟩ := Nat.exists_testBit_of_ne_zero h0
    have hjs := ((hb2 j).1 hj).2.2
    have hnd : (j :: bitsOf seen).Nodup := List.nodup_cons.2 ⟨fun hm => (by rw [(mem_left h.s16).1 hm] at hjs; cases hjs), (bitsOf_rising _).imp fun h => by omega⟩
    exact sub_len _ (bitsOf (seen ||| l2)) hnd fun y hy => by
      rw [mem_left h16, or_bits]
      rcases List.mem_cons.1 hy with rfl | hy
      · exact .inr hj
      · exact .inl ((mem_left h.s16).1 hy)
  have hle : (bitsOf seen).length ≤ (bitsOf (seen ||| l2)).length := sub_len _ _ ((bitsOf_rising _).imp fun h => by omega) fun y hy => (mem_left h16).2 ((or_bits y).2 (.inl ((mem_left h.s16).1 hy)))
  have hc := h.cnt
  have hnb : ∀ u, l2.testBit u = true → u < n := fun u hu => hWn u ((hb2 u).1 hu).2.1
  refine ⟨⟨h16, h216, fun u => ?_, fun u => ?_, by rw [setL_length]; exact h.len, fun u hu hs => ?_, fun u hu hs => ?_, ?_, fun h02 => ?_⟩, hlt, hle⟩
  · rw [or_bits, h.snn]
    constructor
    · rintro (h1 | h1)
      · exact h1.more
      · exact (back u h1).1
    · intro h1
      by_cases c : LW E (inW W) v g u
      · exact .inl c
      · exact .inr (key u h1 c)
  · constructor
    · intro h1
      exact ⟨(back u h1).1, fun k hk hk2 => (back u h1).2 (hk2.le (by omega))⟩
    · rintro ⟨h1, h2⟩
      exact key u h1 (h2 g (by omega))
  · rw [setL_at _ _ _ _ (by rw [h.len]; exact hu)]
    have h1 : ¬ (seen ||| l2).testBit u = true := by rw [hs]; simp
    rw [or_bits, not_or] at h1
    rw [if_neg fun hm => h1.2 ((mem_left h216).1 hm)]
    exact h.no u hu (by simpa using h1.1)
  · rw [setL_at _ _ _ _ (by rw [h.len]; exact hu)]
    by_cases c : l2.testBit u = true
    · rw [if_pos ((mem_left h216).2 c)]
      have hb32 := bitsOf_length seen
      exact ⟨g + 1, by omega, by omega, (back u c).1, fun k hk hk2 => (back u c).2 (hk2.le (by omega))⟩
    · rw [if_neg fun hm => c ((mem_left h216).1 hm)]
      exact h.yes u hu (((or_bits u).1 hs).resolve_right c)
  · have := h.cnt2 h0
    omega
  · have h9 := hlt ‹l2 ≠ 0›
    have := h.cnt2 ‹lay ≠ 0›
    omega
theorem LyI.stop {E : Nat → Nat → Bool} {W n v g seen : Nat} {D : List Int} (h : LyI E W n v g 0 seen D) (hv : inW W v) {u : Nat} (hu : u < n) : IsD E (inW W) v u (D.getD u 0) ∧ -1 ≤ D.getD u 0 ∧ D.getD u 0 ≤ 40 := by
  have hclo : ∀ k u, LW E (inW W) v k u → seen.testBit u = true := fun k u hk => by
    have key : ∀ j u, LW E (inW W) v j u → LW E (inW W) v g u := fun j u hj => by
      induction hj with
      | base h => exact .stay h g
      | @step m x y h1 h2 h3 ih =>
        -- a first walk of x is shorter than g
        have : ∃ i, i < g ∧ LW E (inW W) v i x := Classical.byContradiction fun hn => by
          have := (h.lyy x).2 ⟨ih, fun k hk hk2 => hn ⟨k, hk, hk2⟩⟩
          rw [Nat.zero_testBit] at this; cases this
        obtain ⟨i, hi, h4⟩ := this
        exact (LW.step h4 h2 h3).le (by omega)
    exact (h.snn u).2 (key k u hk)
  cases e : seen.testBit u with
  | false =>
    rw [h.no u hu e]
    exact ⟨.inl ⟨rfl, fun k hk => by rw [hclo k u hk] at e; cases e⟩, by omega, by omega⟩
  | true =>
    obtain ⟨m, h1, h2, h3, h4⟩ := h.yes u hu e
    rw [h1]
    exact ⟨.inr ⟨m, rfl, h3, h4⟩, by omega, by omega⟩

end Go.Proofs.YtkppbmfliejnmaaDoor

/- A region that draws its order, some of whose stores hit the cells that it loads: facts on the world, each of which holds until a named operation of the region has come up. -/
namespace Go.Proofs.YtkppbmfliejnmaaDoor
open Go.RowKit

section
variable {P : Program} {ops : Array Oper} {Q : Exit → Act → World → Prop} {md : Region.Mode}

/-- Facts, each till the operation beside it has come up. -/
def Stg : List (Nat × (World → Prop)) → Array Bool → World → Prop
  | [], _, _ => True
  | f :: fs, l, w => (l.getD f.1 true = false → f.2 w) ∧ Stg fs l w
theorem Stg.nil {l : Array Bool} {w : World} : Stg [] l w := trivial
theorem Stg.keep {f : Nat × (World → Prop)} {fs : List (Nat × (World → Prop))} {l : Array Bool} {w : World} (h : f.2 w) (r : Stg fs l w) : Stg (f :: fs) l w := ⟨fun _ => h, r⟩
theorem Stg.skip {f : Nat × (World → Prop)} {fs : List (Nat × (World → Prop))} {l : Array Bool} {w : World} (h : l.getD f.1 true = true) (r : Stg fs l w) : Stg (f :: fs) l w := ⟨fun k => absurd (h.symm.trans k) (by decide), r⟩
theorem Stg.get : ∀ {fs : List (Nat × (World → Prop))} {l : Array Bool} {w : World} {m s : Nat} {F : World → Prop}, fs[m]? = some (s, F) → Stg fs l w → l.getD s true = false → F w
  | [], _, _, m, _, _, e, _, _ => by simp at e
  | f :: fs, _, _, 0, _, _, e, h, k => by
    simp only [List.getElem?_cons_zero, Option.some.injEq] at e
    subst e
    exact h.1 k
  | f :: fs, _, _, m + 1, _, _, e, h, k => Stg.get (fs := fs) (m := m) (by simpa using e) h.2 k
theorem Stg.set : ∀ {fs : List (Nat × (World → Prop))} {i : Nat} {l : Array Bool} {w : World}, ((fs.map (·.1)).all fun s => s != i) = true → (Stg fs (l.setIfInBounds i true) w ↔ Stg fs l w)
  | [], _, _, _, _ => Iff.rfl
  | f :: fs, i, l, w, h => by
    simp only [List.map_cons, List.all_cons, Bool.and_eq_true, bne_iff_ne] at h
    unfold Stg
    rw [getD_set_ne true (Ne.symm h.1), Stg.set h.2]

/-- Whatever order is picked from here on; behind each operation the facts hold that are still asked. -/
def wpStg (P : Program) (md : Region.Mode) (ops : Array Oper) (Q : Exit → Act → World → Prop) (fs : List (Nat × (World → Prop))) : Nat → Array Bool → Act → World → Prop
  | 0, l, a, w => Region.ready md ops l = [] ∧ Q .normal a w
  | fuel + 1, l, a, w =>
    (Region.ready md ops l = [] → Q .normal a w) ∧
      ∀ i ∈ Region.ready md ops l, wpOp P ops Q i (fun a' w' => Stg fs (l.setIfInBounds i true) w' ∧ wpStg P md ops Q fs fuel (l.setIfInBounds i true) a' w') a w
variable {fs : List (Nat × (World → Prop))}

theorem wpStg_any : ∀ (fuel : Nat) (l : Array Bool) (a : Act) (w : World), wpStg P md ops Q fs fuel l a w → wpAny P md ops Q fuel l a w
  | 0, _, _, _, h => h
  | fuel + 1, _, _, _, h => ⟨h.1, fun i hi => wpOp_mono (fun a' w' k => wpStg_any fuel _ a' w' k.2) (h.2 i hi)⟩

theorem not_ready_after {i s : Nat} {l : Array Bool} (hb : ((ops[s]?).map fun o => o.after.any fun e => Region.binds md e && e.on == i).getD false = true) (hi : l.getD i true = false) : s ∉ Region.ready md ops l := by
  intro h
  obtain ⟨_, o, ho, hall⟩ := mem_ready.1 h
  rw [ho] at hb
  simp only [Option.map_some, Option.getD_some, Array.any_eq_true'] at hb
  obtain ⟨e, he, hb⟩ := hb
  simp only [Bool.and_eq_true, beq_iff_eq] at hb
  have h2 := hall e he hb.1
  rw [hb.2] at h2
  rcases Nat.lt_or_ge i l.size with k | k
  · simp [k] at h2 hi; rw [hi] at h2; cases h2
  · simp [Array.getElem?_eq_none k] at h2

/-- An operation that yields its value wherever what is still asked holds may be taken first. -/
theorem wpStg_first {i : Nat} {oi : Oper} {v : Value} {F : World → Prop} (G : Array Bool → Prop) (hi : ops[i]? = some oi) (hsel : ∀ (j : Nat) (o : Oper) cs b, ops[j]? = some o → o.op ≠ .select cs b)
    (hQ : ∀ c a w, Q (.panic c) (a.put oi.dst v) w → Q (.panic c) a w) (hne : ((fs.map (·.1)).all fun s => s != i) = true)
    (hGs : ∀ l j, G l → l.getD i true = false → j ∈ Region.ready md ops l → j ≠ i → G (l.setIfInBounds j true)) (hGF : ∀ l w, G l → Stg fs l w → F w) :
    ∀ (fuel : Nat) (l : Array Bool) (a : Act) (w : World),
      (∀ j oj, ops[j]? = some oj → j ≠ i → l.getD j true = false → (∀ e ∈ oj.after, Region.binds md e = true → e.on ≠ i) → oi.apart ops oj = true) →
      i ∈ Region.ready md ops l → G l → YieldsIf P ops F oi v a → Stg fs l w →
      wpStg P md ops Q fs fuel (l.setIfInBounds i true) (a.put oi.dst v) w → wpStg P md ops Q fs (fuel + 1) l a w := by
  intro fuel
  induction fuel with
  | zero =>
    intro l a w _ hr hG hy hS H
    refine ⟨fun h => absurd (h ▸ hr) (by simp), fun j hj => ?_⟩
    by_cases e : j = i
    · subst e
      exact hy.wpOp hi (hGF l w hG hS) ⟨(Stg.set hne).2 hS, H⟩
    · have := ready_mono hj e
      rw [H.1] at this
      simp at this
  | succ fuel ih =>
    intro l a w hap hr hG hy hS H
    refine ⟨fun h => absurd (h ▸ hr) (by simp), fun j hj => ?_⟩
    by_cases e : j = i
    · subst e
      exact hy.wpOp hi (hGF l w hG hS) ⟨(Stg.set hne).2 hS, H⟩
    have hil := (mem_ready.1 hr).1
    obtain ⟨hjl, oj, hoj, hall⟩ := mem_ready.1 hj
    have hno : ∀ x ∈ oj.after, Region.binds md x = true → x.on ≠ i := fun x hx hb k => by
      refine not_ready_after (md := md) (ops := ops) (i := i) (s := j) (l := l) ?_ hil hj
      rw [hoj]
      simp only [Option.map_some, Option.getD_some, Array.any_eq_true']
      exact ⟨x, hx, by simp [hb, k]⟩
    have h2 := wpOp_putIf hoj (hap j oj hoj e hjl hno) (fun cs b => hsel i oi cs b hi) (fun cs b => hsel j oj cs b hoj) hQ hy (H.2 j (ready_mono hj e))
    refine wpOp_mono (fun a' w' h3 => ?_) h2
    obtain ⟨h4, h5, h6⟩ := h3
    rw [Array.setIfInBounds_comm _ _ (Ne.symm e)] at h5 h6
    have h7 := (Stg.set hne).1 h5
    refine ⟨h7, ih _ a' w' (fun k ok hk hki hun hnk => hap k ok hk hki ?_ hnk) (ready_mono hr (Ne.symm e)) (hGs l j hG hil hj e) h4 h7 h6⟩
    by_cases k2 : j = k
    · subst k2; exact hjl
    · rwa [getD_set_ne true k2] at hun

/-- A load is taken first: the store that ends its fact waits for it. -/
theorem wpStg_take {m i s : Nat} {oi : Oper} {v : Value} {F : World → Prop} {fuel : Nat} {l : Array Bool} {a : Act} {w : World} (hm : fs[m]? = some (s, F)) (hi : ops[i]? = some oi)
    (hs : Region.noSelect ops = true) (hf : Region.free md ops l i = true) (hr : (Region.ready md ops l).contains i = true)
    (hb : ((ops[s]?).map fun o => o.after.any fun e => Region.binds md e && e.on == i).getD false = true) (hl : l.getD s true = false) (hne : ((fs.map (·.1)).all fun s => s != i) = true)
    (hQ : ∀ c a w, Q (.panic c) (a.put oi.dst v) w → Q (.panic c) a w) (hy : YieldsIf P ops F oi v a) (hS : Stg fs l w)
    (h : wpStg P md ops Q fs fuel (l.setIfInBounds i true) (a.put oi.dst v) w) : wpStg P md ops Q fs (fuel + 1) l a w :=
  wpStg_first (fun l => l.getD s true = false) hi (Region.noSelect_spec hs) hQ hne
    (fun l j h1 h2 h3 _ => by rw [getD_set_ne true (fun e => not_ready_after hb h2 (by rw [← e]; exact h3))]; exact h1) (fun l w h1 h2 => Stg.get hm h2 h1) fuel l a w (Region.free_spec hi hf) (by simpa using hr) hl hy hS h
/-- What yields in whatever world is taken first. -/
theorem wpStg_pure {i : Nat} {oi : Oper} {v : Value} {fuel : Nat} {l : Array Bool} {a : Act} {w : World} (hi : ops[i]? = some oi)
    (hs : Region.noSelect ops = true) (hf : Region.free md ops l i = true) (hr : (Region.ready md ops l).contains i = true) (hne : ((fs.map (·.1)).all fun s => s != i) = true)
    (hQ : ∀ c a w, Q (.panic c) (a.put oi.dst v) w → Q (.panic c) a w) (hy : YieldsIf P ops (fun _ => True) oi v a) (hS : Stg fs l w)
    (h : wpStg P md ops Q fs fuel (l.setIfInBounds i true) (a.put oi.dst v) w) : wpStg P md ops Q fs (fuel + 1) l a w :=
  wpStg_first (fun _ => True) hi (Region.noSelect_spec hs) hQ hne (fun _ _ _ _ _ _ => trivial) (fun _ _ _ _ => trivial) fuel l a w (Region.free_spec hi hf) (by simpa using hr) trivial hy hS h

/-- Just one operation may come up: it is carried out. -/
theorem wpStg_one {i : Nat} {oi : Oper} {fuel : Nat} {l : Array Bool} {a : Act} {w : World} (hr : Region.ready md ops l = [i]) (hi : ops[i]? = some oi)
    (h : ∀ K' : Act → World → Prop, Shut (∀ a w, Stg fs (l.setIfInBounds i true) w → (Stg fs (l.setIfInBounds i true) w → wpStg P md ops Q fs fuel (l.setIfInBounds i true) a w) → K' a w) →
      if Region.wanted oi (yielded ops a.tmps) = true then Oper.wp P oi a w K' Q else K' (a.put oi.dst undef) w) : wpStg P md ops Q fs (fuel + 1) l a w := by
  refine ⟨fun h0 => ?_, fun j hj => ?_⟩
  · rw [hr] at h0; cases h0
  · rw [hr] at hj
    obtain rfl : j = i := by simpa using hj
    exact wpOp_step hi (fun K' hK => h K' (fun a w hS hW => hK a w ⟨hS, hW hS⟩))
theorem wpStg_done {l : Array Bool} {a : Act} {w : World} (hr : Region.ready md ops l = []) (h : Q .normal a w) : ∀ fuel, wpStg P md ops Q fs fuel l a w
  | 0 => ⟨hr, h⟩
  | _ + 1 => ⟨fun _ => h, by rw [hr]; simp⟩
theorem wp_region_stg {id : Nat} {a : Act} {w : World} (fs : List (Nat × (World → Prop))) (hm : P.follows .mixedOrders = true) (hS : Stg fs (Array.replicate ops.size false) w.drew)
    (h : Stg fs (Array.replicate ops.size false) w.drew → wpStg P .any ops Q fs ops.size (Array.replicate ops.size false) a w.drew) : (Code.region id ops true).wp P Q a w :=
  wp_region_any hm (wpStg_any _ _ _ _ (h hS))
end

/-- append as one operation of such a region; where the new row lies. -/
theorem step_app1f {P : Program} {T E : TypeId} {z : Value} {bytes : Nat} (S : SlTy P T E z 1 bytes) {w : World} {ops : Array Oper} {o : Oper} {a : Act} {K : Act → World → Prop} {Q : Exit → Act → World → Prop} {F : Prop}
    (hgd : o.guard = none) {s x : Operand} (ho : o.op = .call { callee := .builtin .append, args := #[s, x], argTypes := #[T, T] })
    {base : Nat} {v : Value} {n : Nat} {xs : List Value} {el : Value} (hs : a.eval s = v) (hown : w.ownsRow base E 1 v n xs)
    (hx : a.eval x = .slice (some ⟨w.heap.size, 0, none⟩) 1 1) (h1 : el.oneCell' = true)
    (hnm : n < 1000000000) (hbase : base ≤ w.heap.size)
    (h : ∀ b c w', w'.ownsRow base E 1 (.slice (some ⟨b, 0, none⟩) (n + 1) c) (n + 1) (xs ++ [el]) → w.grownBy w' v.ownBlock → (v.ownBlock = some b ∨ w.heap.size < b) → K (a.put o.dst (.slice (some ⟨b, 0, none⟩) (n + 1) c)) w') :
    if Region.wanted o (yielded ops a.tmps) = true then Oper.wp P o a (w.alloc (.cells #[el] E)) K Q else F := by
  have hw : Region.wanted o (yielded ops a.tmps) = true := by simp [Region.wanted, hgd]
  rw [if_pos hw]
  have hal := size_alloc w (.cells #[el] E)
  have hu : Sl (w.alloc (.cells #[el] E)) E (.slice (some ⟨w.heap.size, 0, none⟩) 1 1) 1 [el] := by
    refine ⟨_, 1, rfl, (fun e => by cases e), Nat.le_refl _, by omega, Or.inr ⟨w.heap.size, 0, #[el], (0, 0), rfl, heap_alloc_new w _, fun j u hu => ?_⟩⟩
    cases j with
    | zero => simpa using hu
    | succ j => simp at hu
  obtain ⟨v', w', hr, h2, h3, h4⟩ := run_app S (w.alloc (.cells #[el] E)) o.type base v n xs (hown.alloc _) _ 1 [el] hu (by simp) (by simpa using h1) (by omega) (by omega)
  unfold Oper.wp execOp
  simp only [ho, resolve, invoke, builtin, Sem.run_bind, Sem.run_pure, Result.andThen_ok, List.map_toArray, List.map_cons, List.map_nil, hs, hx, hr]
  rcases id h2.2 with ⟨_, h0⟩ | ⟨g, cap, cur, rfl, _⟩
  · omega
  · refine h g cap w' h2 ⟨h3.os, h3.tape, h3.output, by have := h3.size; omega, fun k hk hne => (h3.block k (by omega) hne).trans (Below.heap_alloc w _ k hk)⟩ ?_
    rcases h4 g rfl with h5 | h5
    · exact .inl h5
    · exact .inr (by omega)

end Go.Proofs.YtkppbmfliejnmaaDoor
