/- Walks: marking a graph; what stays apart from it. -/
import Derived.Test.YtkppbmfliejnmaaDoorCaQ18
import Derived.Test.YtkppbmfliejnmaaDoorCaQ13
import Derived.Test.YtkppbmfliejnmaaDoorCaQ26
import Derived.Test.YtkppbmfliejnmaaDoorCaQ30
import Derived.Test.YtkppbmfliejnmaaDoorCaQ28
import Derived.Test.YtkppbmfliejnmaaDoorCaQ12
import Derived.Test.YtkppbmfliejnmaaDoorCaQ7
namespace Go.Proofs.YtkppbmfliejnmaaDoor
open Go.RowKit

/-- Only blocks from lo on and below hi have turned. -/
structure Apart (lo hi : Nat) (w w' : World) : Prop where
  os : w'.os = w.os
  tape : w'.tape = w.tape
  output : w'.output = w.output
  size : w.heap.size ≤ w'.heap.size
  block : ∀ b, b < w.heap.size → (b < lo ∨ hi ≤ b) → w'.heap[b]? = w.heap[b]?

theorem Apart.refl (lo hi : Nat) (w : World) : Apart lo hi w w := ⟨rfl, rfl, rfl, Nat.le_refl _, fun _ _ _ => rfl⟩
theorem Apart.trans {lo hi : Nat} {a b c : World} (h : Apart lo hi a b) (k : Apart lo hi b c) : Apart lo hi a c :=
  ⟨k.os.trans h.os, k.tape.trans h.tape, k.output.trans h.output, Nat.le_trans h.size k.size, fun i hi hn => (k.block i (Nat.lt_of_lt_of_le hi h.size) hn).trans (h.block i hi hn)⟩
theorem Apart.of_below {lo hi : Nat} {w w' : World} (h : Below w.heap.size w w') : Apart lo hi w w' := ⟨h.os, h.tape, h.output, h.size, fun b hb _ => h.block b hb⟩
theorem Apart.below {lo hi : Nat} {w w' : World} (h : Apart lo hi w w') (hl : lo ≤ w.heap.size) : Below lo w w' := ⟨h.os, h.tape, h.output, h.size, fun b hb => h.block b (by omega) (.inl hb)⟩
theorem Apart.of_grown {lo hi : Nat} {w w' : World} {base : Nat} {E : TypeId} {size n : Nat} {v : Value} {xs : List Value} (ho : w.ownsRow base E size v n xs) (hg : w.grownBy w' v.ownBlock) (h1 : lo ≤ base) (h2 : ∀ k, v.ownBlock = some k → k < hi) : Apart lo hi w w' :=
  ⟨hg.os, hg.tape, hg.output, hg.size, fun b hb hx => hg.block b hb fun e => by
    have h3 := (ho.lt b e.symm).1
    have h4 := h2 b e.symm
    omega⟩

theorem ownsRow_apart_lo {lo hi : Nat} {w w' : World} {base : Nat} {E : TypeId} {size n : Nat} {v : Value} {xs : List Value} (h : w.ownsRow base E size v n xs) (ha : Apart lo hi w w') (hl : ∀ k, v.ownBlock = some k → k < lo) : w'.ownsRow base E size v n xs := by
  refine ⟨h.1, ?_⟩
  rcases h.2 with h2 | ⟨g, cap, cur, h1, h2, h3, h4⟩
  · exact .inl h2
  · exact .inr ⟨g, cap, cur, h1, h2, (ha.block g (Array.getElem?_eq_some_iff.1 h3).1 (.inl (hl g (by rw [h1]; rfl)))).trans h3, h4⟩
theorem ownsRow_apart_hi {lo hi : Nat} {w w' : World} {base : Nat} {E : TypeId} {size n : Nat} {v : Value} {xs : List Value} (h : w.ownsRow base E size v n xs) (ha : Apart lo hi w w') (hl : hi ≤ base) : w'.ownsRow base E size v n xs := by
  refine ⟨h.1, ?_⟩
  rcases h.2 with h2 | ⟨g, cap, cur, h1, h2, h3, h4⟩
  · exact .inl h2
  · exact .inr ⟨g, cap, cur, h1, h2, (ha.block g (Array.getElem?_eq_some_iff.1 h3).1 (.inr (by omega))).trans h3, h4⟩

/-- A row, whatever it holds, behind a write to a row of the same kind. -/
theorem ownsRow_some {w w' : World} {base : Nat} {E : TypeId} {n m : Nat} {v u : Value} {ys zs zs' : List Value} (h : w.ownsRow base E 1 v n ys)
    (ho : w.ownsRow base E 1 u m zs) (ho' : w'.ownsRow base E 1 u m zs') (hg : w.grownBy w' u.ownBlock) : ∃ ys', w'.ownsRow base E 1 v n ys' := by
  rcases h.2 with ⟨rfl, rfl⟩ | ⟨g, cap, cur, rfl, hb, hgg, hnc, hcm, hcs, ht⟩
  · exact ⟨[], World.ownsRow_nil _ _ _ _⟩
  · by_cases e : u.ownBlock = some g
    · rcases ho.2 with ⟨rfl, rfl⟩ | ⟨g1, cap1, cur1, rfl, _, hg1, _, _, hcs1, _⟩
      · simp [Value.ownBlock] at e
      · simp [Value.ownBlock] at e
        subst e
        rcases ho'.2 with ⟨h', _⟩ | ⟨g2, cap2, cur2, h2, hb2, hg2, _, _, hcs2, _⟩
        · simp at h'
        · simp only [Value.slice.injEq, Option.some.injEq, Addr.mk.injEq, and_true, true_and] at h2
          obtain ⟨rfl, rfl⟩ := h2
          rw [hgg] at hg1
          simp only [Option.some.injEq, Obj.cells.injEq] at hg1
          have hcc : cur2.size = cap * 1 := by rw [hcs2, ← hcs1, ← hg1.1, hcs]
          refine ⟨cur2.toList.take (n * 1), by rw [List.length_take, Array.length_toList]; omega, .inr ⟨g1, cap, cur2, rfl, hb, hg2, hnc, hcm, hcc, rfl⟩⟩
    · exact ⟨ys, h.kept hg (.inr (by simp only [Value.ownBlock]; exact fun q => e q.symm))⟩

/-- A graph in blocks from lo on and below hi. -/
def InG (w : World) (lo hi : Nat) (v : Value) (g : List (List Int)) : Prop :=
  ∃ u vals, v = .agg #[u] ∧ vals.length = g.length ∧ w.ownsRow lo 33 1 u g.length vals ∧ (∀ b, u.ownBlock = some b → b < hi) ∧
    ∀ j, j < g.length → w.ownsRow lo 2 1 (vals.getD j undef) (row g j).length ((row g j).map (Value.int .i64)) ∧ ∀ b, (vals.getD j undef).ownBlock = some b → b < hi

theorem InG.of_own {w : World} {lo : Nat} {v : Value} {g : List (List Int)} (h : OwnG w lo v g) : InG w lo w.heap.size v g := by
  obtain ⟨u, rfl, vals, h1, h2, h3⟩ := h
  exact ⟨u, vals, rfl, h1, h2, fun b hb => (h2.lt b hb).2, fun j hj => ⟨h3 j hj, fun b hb => ((h3 j hj).lt b hb).2⟩⟩
theorem InG.below {w w' : World} {lo hi : Nat} {v : Value} {g : List (List Int)} (h : InG w lo hi v g) (hb : Below w.heap.size w w') : InG w' lo hi v g := by
  obtain ⟨u, vals, h0, h1, h2, h3, h4⟩ := h
  exact ⟨u, vals, h0, h1, ownsRow_below h2 hb, h3, fun j hj => ⟨ownsRow_below (h4 j hj).1 hb, (h4 j hj).2⟩⟩
theorem InG.own {w : World} {lo hi : Nat} {v : Value} {g : List (List Int)} (h : InG w lo hi v g) : OwnG w lo v g := by
  obtain ⟨u, vals, h0, h1, h2, h3, h4⟩ := h
  exact ⟨u, h0, vals, h1, h2, fun j hj => (h4 j hj).1⟩

end Go.Proofs.YtkppbmfliejnmaaDoor

/- Walks: marking a graph whose rows lie apart, and looking at the marks. -/
namespace Go.Proofs.YtkppbmfliejnmaaDoor
open Go.RowKit

def preL (g : List (List Int)) : Nat → Nat
  | 0 => 0
  | j + 1 => preL g j + (row g j).length
theorem preL_le {g : List (List Int)} {m : Nat} (h : ∀ j, (row g j).length ≤ m) : ∀ j, preL g j ≤ j * m
  | 0 => by simp [preL]
  | j + 1 => by
    have h1 := preL_le h j
    have h2 := h j
    have : (j + 1) * m = j * m + m := Nat.succ_mul j m
    simp only [preL]; omega
/-- The graph of the marks k, k + 1, .. that a graph bears. -/
def markG (k : Int) (g : List (List Int)) : List (List Int) := (List.range g.length).map fun j => marks (k + preL g j) (row g j).length
theorem markG_length (k : Int) (g : List (List Int)) : (markG k g).length = g.length := by simp [markG]
theorem row_markG {k : Int} {g : List (List Int)} {j : Nat} (h : j < g.length) : row (markG k g) j = marks (k + preL g j) (row g j).length := by simp [row, markG, h]

/-- A graph of blocks of its own from base on and below hi. -/
def DGh (w : World) (base hi : Nat) (v : Value) (g : List (List Int)) : Prop :=
  ∃ u vals, v = .agg #[u] ∧ vals.length = g.length ∧ w.ownsRow base 33 1 u g.length vals ∧ Dis w base g.length vals g ∧ ∀ j, j < g.length → ∀ b, (vals.getD j undef).ownBlock = some b → b < hi
theorem DGh.of {w : World} {base : Nat} {v : Value} {g : List (List Int)} (h : DG w base v g) : DGh w base w.heap.size v g := by
  obtain ⟨u, vals, h1, h2, h3, h4⟩ := h
  exact ⟨u, vals, h1, h2, h3, h4, fun j hj b hb => ((h4.rows j hj).lt b hb).2⟩
theorem DGh.dg {w : World} {base hi : Nat} {v : Value} {g : List (List Int)} (h : DGh w base hi v g) : DG w base v g := by
  obtain ⟨u, vals, h1, h2, h3, h4, _⟩ := h
  exact ⟨u, vals, h1, h2, h3, h4⟩
theorem DGh.below {w w' : World} {base hi : Nat} {v : Value} {g : List (List Int)} (h : DGh w base hi v g) (hb : Below w.heap.size w w') : DGh w' base hi v g := by
  obtain ⟨u, vals, h1, h2, h3, h4, h5⟩ := h
  exact ⟨u, vals, h1, h2, ownsRow_below h3 hb, ⟨fun j hj => ownsRow_below (h4.rows j hj) hb, h4.dis⟩, h5⟩
theorem DGh.apart {w w' : World} {base hi lo' hi' : Nat} {v : Value} {g : List (List Int)} (h : DGh w base hi v g) (ha : Apart lo' hi' w w') (hl : hi' ≤ base) : DGh w' base hi v g := by
  obtain ⟨u, vals, h1, h2, h3, h4, h5⟩ := h
  exact ⟨u, vals, h1, h2, ownsRow_apart_hi h3 ha hl, ⟨fun j hj => ownsRow_apart_hi (h4.rows j hj) ha hl, h4.dis⟩, h5⟩
theorem Box.apart {w w' : World} {b lo hi : Nat} {T : TypeId} {v : Value} (h : Box w b T v) (ha : Apart lo hi w w') (hb : hi ≤ b) : Box w' b T v := .of ((ha.block b h.lt (.inr hb)).trans h.blk)

end Go.Proofs.YtkppbmfliejnmaaDoor

/- Walk: the program's Canonical. -/
namespace Go.Proofs.YtkppbmfliejnmaaDoor
open Go.RowKit

theorem edB_net {g : List (List Int)} (h : GOk g) : ∀ u v, u < (netL g).length → v < (netL g).length → edB g u v = ((netL g).getD v 0).testBit u := by
  intro u v hu hv
  have hl : (netL g).length = g.length := by simp [netL]
  rw [hl] at hu hv
  unfold edB
  rw [netL_getD, Bool.eq_iff_iff, decide_eq_true_eq, testBit_row h hv]
  constructor
  · intro k
    have := h.both u hu _ k
    simpa using this
  · intro k
    have := h.both v hv _ k
    simpa using this

theorem dg_nilC (w : World) (base : Nat) : DG w base (.agg #[.slice none 0 0]) [] := ⟨_, [], rfl, rfl, World.ownsRow_nil _ _ _ _, ⟨fun j hj => by simp at hj, fun i j hi => by simp at hi⟩⟩

theorem DGh.setBox {w : World} {base b hi : Nat} {v x : Value} {g : List (List Int)} (h : DGh w base hi v g) (hb : Box w b 29 x) (u : Value) : DGh (w.setCell ⟨b, 0, none⟩ u) base hi v g := by
  obtain ⟨u', vals, h1, h2, h3, h4, h5⟩ := h
  exact ⟨u', vals, h1, h2, ownsRow_setBox h3 hb (by decide) u, ⟨fun j hj => ownsRow_setBox (h4.rows j hj) hb (by decide) u, h4.dis⟩, h5⟩
theorem DGh.baseC {w : World} {base base' hi : Nat} {v : Value} {g : List (List Int)} (h : DGh w base hi v g) (hb : base' ≤ base) : DGh w base' hi v g := by
  obtain ⟨u', vals, h1, h2, h3, h4, h5⟩ := h
  exact ⟨u', vals, h1, h2, ownsRow_base h3 hb, ⟨fun j hj => ownsRow_base (h4.rows j hj) hb, h4.dis⟩, h5⟩

set_option maxRecDepth 100000 in
set_option maxHeartbeats 4000000 in
theorem implCanonical_any (v : Value) (g : List (List Int)) (w : World) (hg : Gr w v g) (hT : Tab w) :
    Calls Tryd.prog 44 #[v] w fun e w' => ∃ (u lv : Value) (gg : List (List Int)) (l : List Int) (mid : Nat), e = .returned (.tuple #[u, lv]) ∧ CanS g gg l ∧
      gg.length ≤ 16 ∧ (∀ j, (row gg j).length ≤ 16) ∧ l.length ≤ 16 ∧ w.heap.size ≤ mid ∧ mid ≤ w'.heap.size ∧ DGh w' w.heap.size mid u gg ∧ w'.ownsRow mid 2 1 lv l.length (l.map (Value.int .i64)) ∧ Below w.heap.size w w' := by
  have hg0 := hg
  obtain ⟨u, rfl, hr⟩ := hg
  obtain ⟨p, c, rfl, _, _, _⟩ := hr.shape
  have hbA := Lib.hid (below_alloc2 w (.cells #[.slice p g.length c] 29) (.cells #[.slice none 0 0] 29))
  have BX := Lib.hid ((Box.new w (.slice p g.length c) 29).alloc (.cells #[.slice none 0 0] 29))
  have BN : Hid (Box ((w.alloc (.cells #[.slice p g.length c] 29)).alloc (.cells #[.slice none 0 0] 29)) (w.heap.size + 1) 29 (.slice none 0 0)) := by
    have := Box.new (w.alloc (.cells #[.slice p g.length c] 29)) (.slice none 0 0) 29
    rw [size_alloc] at this
    exact Lib.hid this
  have HG := Lib.hid (hg0.below hbA.out)
  have HT := Lib.hid (hT.keep hbA.out)
  have h0 := hbA.out.size
  clear hr hg0 hT
  by_cases hok : GOk g ∧ g.length ≤ 8
  case neg =>
    have hd := Lib.hid (dec_false hok)
    have Hok := Lib.hid hok
    clear hok
    go_enter Tryd.func44, Tryd.ntmps44
    go_wp2_with (go_at_call 123; refine (isSmall_any _ g _ HG.out).mono ?_; rintro e w2 ⟨he, hb2⟩; rw [hd.out] at he; subst he; obtain ⟨nc, nf, nl, nB⟩ := BN.out.keep hb2)
    refine bodyPost_ret (v := .tuple #[.agg #[.slice none 0 0], .slice none 0 0]) (by simp [results, Tryd.results44, go_sem, nc]) rfl ⟨_, _, [], [], w.heap.size, rfl, .inr ⟨Hok.out, rfl, rfl⟩, by simp, fun j => by simp [row], by simp, Nat.le_refl _, Nat.le_trans (Nat.le_trans h0 hb2.size) ((Below.refl 0 w2).setCell (p := ⟨w.heap.size + 1, 0, none⟩) (Nat.zero_le _) _).size,
      ⟨_, [], rfl, rfl, World.ownsRow_nil _ _ _ _, ⟨fun j hj => by simp at hj, fun i j hi => by simp at hi⟩, fun j hj => by simp at hj⟩, World.ownsRow_nil _ _ _ _, ?_⟩
    exact (hbA.out.trans (hb2.mono h0)).setCell (by show w.heap.size ≤ w.heap.size + 1; omega) _
  have hd := Lib.hid (dec_true hok)
  have h8 := hok.2
  have h16 := hok.1.le
  obtain ⟨a, ha⟩ : ∃ a, a = netL g := ⟨_, rfl⟩
  have hal : a.length = g.length := by rw [ha]; simp [netL]
  have HAL := Lib.hid hal
  have HA := Lib.hid ha
  have HLT : Hid (∀ s ∈ a, s < 65536) := Lib.hid (by rw [ha]; exact netL_lt hok.1)
  have HEB : Hid (∀ u v, u < a.length → v < a.length → edB g u v = (a.getD v 0).testBit u) := Lib.hid (by rw [ha]; exact edB_net hok.1)
  obtain ⟨r, hr⟩ := search_some a.length (edB g)
  obtain ⟨hs1, hs2⟩ := search_same hr
  have HR := Lib.hid hr
  have HS1 : Hid ((levB g.length (edB g) g.length).head? = some r.1) := Lib.hid (by rw [← hal]; exact hs1)
  obtain ⟨o, hoe⟩ : ∃ o, o = r.1 := ⟨_, rfl⟩
  have HOE := Lib.hid hoe
  have hol : o.length = g.length := by rw [hoe, ← hal]; exact hs2.len
  have HOL := Lib.hid hol
  have HOLT : Hid (∀ u ∈ o, u < a.length) := Lib.hid (by rw [hoe]; exact hs2.lt)
  have E6 : Hid (rowsOf (indN o.length (bitE a o)) = indL g (natInts o)) := Lib.hid (by
    rw [rowsOf_indN (by omega), ha, bitE_netL hok.1 (fun v hv => by rw [← hal]; exact HOLT.out v hv)])
  have O16 := Lib.hid (show o.length ≤ 16 by omega)
  have Hok := Lib.hid hok
  clear hok ha hal hr hs1 hs2 hoe hol
  go_enter Tryd.func44, Tryd.ntmps44
  go_upto_region 5 with (first
    | (go_at_call 123; refine (isSmall_any _ g _ HG.out).mono ?_; rintro e w2 ⟨he, hb2⟩; rw [hd.out] at he; subst he; have hbx := (BX.out.keep hb2).cell)
    | (go_at_call 89; refine (netsOf_any _ g _ (HG.out.below hb2) Hok.out.1).mono ?_; rintro e w3 ⟨x, rfl, hown3, hb3⟩; obtain ⟨xp, xc, rfl, _⟩ := owns_capL hown3; have HX3 : Hid (Sl w3 70 (.slice xp a.length xc) a.length (a.map u32v)) := Lib.hid (by rw [HAL.out, HA.out]; exact Sl.of_owns hown3 (by omega)); have HC3 : Hid (CI w3 w3.heap.size (.slice xp a.length xc) (w3.alloc (.cells #[.slice xp g.length xc, .slice none 0 0, .int .u32 0, .slice none 0 0, .slice none 0 0, .slice none 0 0] 106)) [] 0 [] none (.slice none 0 0) (.slice none 0 0) (.slice none 0 0) (.slice none 0 0)) := Lib.hid ⟨rfl, below_alloc _ _, by rw [HAL.out]; exact CS.new _, World.ownsRow_nil _ _ _ _, World.ownsRow_nil _ _ _ _, rfl⟩; clear hown3)
    | (go_at_call 130; refine (grow_any w3 w3.heap.size xp xc a HLT.out (by rw [HAL.out]; exact h8) (edB g) HEB.out HX3.out a.length [] [] none 0 _ _ _ _ _ rfl ⟨rfl, by simp, by simp⟩ (by simp) rfl (fun q h => by cases h) (fun q h => by cases h) HC3.out).mono ?_; rintro e w4 ⟨rfl, ov4, cv4, bv4, fv4, hci4⟩; rw [HR.out] at hci4; have HC4 := Lib.hid hci4; clear hci4))
  have hf4 := HC4.out.bst.2.1
  rw [← HOE.out] at hf4
  obtain ⟨fp, fc, rfl, _⟩ := owns_capL hf4
  have HF4 := Lib.hid (Nums.of_owns hf4 (natInts_length o).symm (by have := O16.out; omega))
  have hc0 := HC4.out.cs.c0
  rw [HAL.out] at hc0
  have hc5 := HC4.out.cs.c5
  have HX4 := Lib.hid (HC4.out.nets HX3.out)
  have s2 := hb2.size
  rw [size_alloc, size_alloc] at s2
  have s3 := hb3.size
  have lt4 := HC4.out.cs.lt
  have HT4 := Lib.hid (((HT.out.keep hb2).keep hb3).below HC4.out.bel (by have := ((HT.out.keep hb2).keep hb3).pos; exact this))
  have BN4 := Lib.hid (((BN.out.keep hb2).keep hb3).below HC4.out.bel (by have := ((BN.out.keep hb2).keep hb3).lt; exact this))
  have HB4 := Lib.hid (((hbA.out.trans (hb2.mono h0)).trans (hb3.mono (by omega))).trans (HC4.out.bel.mono (by omega)))
  have hne : w.heap.size + 1 ≠ w3.heap.size := by omega
  have hne' : w3.heap.size ≠ w.heap.size + 1 := by omega
  have o16 := O16.out
  clear hf4 hb2 hb3 HC4 HC3 hbx
  go_region_held3 (fun W => W.cell? ⟨w3.heap.size, 0, none⟩ = some (.slice xp g.length xc) ∧ W.cell? ⟨w3.heap.size, 5, none⟩ = some (.slice fp o.length fc))
    (first | exact ⟨hc0, hc5⟩ | exact ⟨hb5'.at' hc0, hb5'.at' hc5⟩ | exact ⟨hb6'.at' hc0, hb6'.at' hc5⟩ | exact ⟨hb7'.at' hc0, hb7'.at' hc5⟩ | exact ⟨(World.cell?_setCell_far _ _ _ _ hne).trans (hb7'.at' hc0), (World.cell?_setCell_far _ _ _ _ hne).trans (hb7'.at' hc5)⟩ | go_keep)
    (first
      | (go_at_call 116; refine (induced_any _ _ a o (by rw [HAL.out]; exact h16) HLT.out HOLT.out O16.out _ (by rw [← HAL.out]; exact HX4.out.below (below_dN (Below.refl _ _) 1)) (HF4.out.below (below_dN (Below.refl _ _) 1))).mono ?_; rintro e w5 ⟨u5, rfl, ho5, hb5⟩; have HX5 : Hid (Sl w5 70 u5 (indN o.length (bitE a o)).length ((indN o.length (bitE a o)).map u32v)) := Lib.hid (by rw [indN_length]; exact Sl.of_owns ho5 (by omega)); have hb5' : Below w4.heap.size w4 w5 := (below_dN (Below.refl _ _) 1).trans hb5; clear ho5)
      | (go_at_call 118; refine (graph_any _ (indN o.length (bitE a o)) (indN_lt16 o16) (by rw [indN_length]; omega) _ HX5.out (HT4.out.keep hb5')).mono ?_; rintro e w6 ⟨u6, rfl, hd6, hb6⟩; rw [E6.out] at hd6; obtain ⟨p6, c6, rfl⟩ := hd6.shape; have HD6 := Lib.hid (DGh.of hd6); have hb6' : Below w4.heap.size w4 w6 := hb5'.trans (hb6.mono hb5'.size); clear hd6)
      | (go_at_call 125; refine (wide_any _ (natInts o) _ (HF4.out.below hb6')).mono ?_; rintro e w7 ⟨lv, rfl, ho7, hb7⟩; obtain ⟨lp, lc, rfl, _⟩ := owns_capL ho7; have HO7 := Lib.hid ho7; have HD7 := Lib.hid (HD6.out.below hb7); have hb7' : Below w4.heap.size w4 w7 := hb6'.trans (hb7.mono hb6'.size); obtain ⟨mc, mf, ml, mB⟩ := BN4.out.keep hb7'; clear ho7))
  all_goals go_wp2
  have hi2 : (indL g (natInts o)).length = g.length := by unfold indL; rw [matG_length, natInts_length]; exact HOL.out
  have s4 := HB4.out.size
  have s5 := hb5'.size
  have s6 := hb6.size
  refine bodyPost_ret (v := .tuple #[.agg #[.slice p6 (indL g (natInts o)).length c6], .slice lp (natInts o).length lc]) (by simp [results, Tryd.results44, go_sem, mc]) rfl ⟨_, _, indL g (natInts o), natInts o, w6.heap.size, rfl, .inl ⟨Hok.out, o, by rw [HOE.out]; exact HS1.out, rfl, rfl⟩,
    by omega, fun j => Nat.le_trans (matG_row_le j) (by rw [natInts_length]; exact o16), by rw [natInts_length]; exact o16, by omega, Nat.le_trans hb7.size ((Below.refl 0 w7).setCell (p := ⟨w.heap.size + 1, 0, none⟩) (Nat.zero_le _) _).size, (HD7.out.setBox ⟨mc, mf, ml, mB⟩ _).baseC (by omega), ownsRow_setBox HO7.out ⟨mc, mf, ml, mB⟩ (by decide) _, ?_⟩
  exact (HB4.out.trans (hb7'.mono s4)).setCell (by show w.heap.size ≤ w.heap.size + 1; omega) _

end Go.Proofs.YtkppbmfliejnmaaDoor
