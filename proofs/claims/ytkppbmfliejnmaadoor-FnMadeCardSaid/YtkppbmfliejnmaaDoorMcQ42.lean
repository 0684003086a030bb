/- Walk: the reference's Canonical. -/
import Derived.Test.YtkppbmfliejnmaaDoorMcQ18
import Derived.Test.YtkppbmfliejnmaaDoorMcQ13
import Derived.Test.YtkppbmfliejnmaaDoorMcQ33
import Derived.Test.YtkppbmfliejnmaaDoorMcQ20
import Derived.Test.YtkppbmfliejnmaaDoorMcQ22
import Derived.Test.YtkppbmfliejnmaaDoorMcQ12
import Derived.Test.YtkppbmfliejnmaaDoorMcQ6
import Derived.Test.YtkppbmfliejnmaaDoorMcQ41
import Derived.Test.YtkppbmfliejnmaaDoorMcQ23
import Derived.Test.YtkppbmfliejnmaaDoorMcQ7
import Derived.Test.YtkppbmfliejnmaaDoorMcQ2
import Derived.Test.YtkppbmfliejnmaaDoorMcQ38
namespace Go.Proofs.YtkppbmfliejnmaaDoor
open Go.RowKit

/-- What Canonical returns: the first order of least code, and the graph by it. -/
def CanS (g gg : List (List Int)) (l : List Int) : Prop :=
  ((GOk g ∧ g.length ≤ 8) ∧ ∃ o, (levB g.length (edB g) g.length).head? = some o ∧ l = natInts o ∧ gg = indL g (natInts o)) ∨ (¬ (GOk g ∧ g.length ≤ 8) ∧ gg = [] ∧ l = [])
theorem canS_det {g g1 g2 : List (List Int)} {l1 l2 : List Int} (h : CanS g g1 l1) (k : CanS g g2 l2) : g1 = g2 ∧ l1 = l2 := by
  rcases h with ⟨h, o, h1, h2, h3⟩ | ⟨h, h1, h2⟩ <;> rcases k with ⟨k, p, k1, k2, k3⟩ | ⟨k, k1, k2⟩
  · rw [h1] at k1
    cases k1
    exact ⟨h3.trans k3.symm, h2.trans k2.symm⟩
  · exact absurd h k
  · exact absurd k h
  · exact ⟨h1.trans k1.symm, h2.trans k2.symm⟩

theorem sg_nilC (w : World) (base : Nat) : SG w base (.agg #[.slice none 0 0]) [] := ⟨_, [], rfl, rfl, World.ownsRow_nil _ _ _ _, fun j hj => by simp at hj⟩
theorem first_row {w : World} {base : Nat} {u : Value} {Ls : List (List Nat)} {o : List Nat} (h : SG w base (.agg #[u]) (Ls.map natInts)) (ho : Ls.head? = some o) (hl : Ls.length ≤ 16777216) :
    ∃ bb bo n c rp rc, u = .slice (some ⟨bb, bo, none⟩) n c ∧ 0 < n ∧ w.cell? ⟨bb, bo, none⟩ = some (.slice rp o.length rc) ∧ Nums w 2 .i64 (.slice rp o.length rc) (natInts o) := by
  cases Ls with
  | nil => simp at ho
  | cons o' Ls =>
    obtain rfl : o' = o := by simpa using ho
    obtain ⟨_, e, hr⟩ := h.gr (by rw [List.length_map]; omega)
    simp only [Value.agg.injEq, Array.mk.injEq, List.cons.injEq, and_true] at e
    subst e
    obtain ⟨p, c, rfl, _⟩ := hr.shape
    obtain ⟨bb, bo, rp, rc, rfl, hco, hno⟩ := hr.get (k := 0) (by simp)
    have e0 : ((o' :: Ls).map natInts).getD 0 [] = natInts o' := rfl
    rw [e0, natInts_length] at hco hno
    exact ⟨bb, bo, _, c, rp, rc, rfl, by simp, hco, hno⟩

end Go.Proofs.YtkppbmfliejnmaaDoor

/- Walks: marking a graph whose rows lie apart, and looking at the marks. -/
namespace Go.Proofs.YtkppbmfliejnmaaDoor
open Go.RowKit

def preL (g : List (List Int)) : Nat → Nat
  | 0 => 0
  | j + 1 => preL g j + (row g j).length
theorem preL_le {g : List (List Int)} {m : Nat} (h : ∀ j, (row g j).length ≤ m) : ∀ j, preL g j ≤ j * m
  | 0 => by simp [preL]
  | j + 1 => by
    have h1 := preL_le h j
    have h2 := h j
    have : (j + 1) * m = j * m + m := Nat.succ_mul j m
    simp only [preL]; omega
/-- The graph of the marks k, k + 1, .. that a graph bears. -/
def markG (k : Int) (g : List (List Int)) : List (List Int) := (List.range g.length).map fun j => marks (k + preL g j) (row g j).length
theorem markG_length (k : Int) (g : List (List Int)) : (markG k g).length = g.length := by simp [markG]
theorem row_markG {k : Int} {g : List (List Int)} {j : Nat} (h : j < g.length) : row (markG k g) j = marks (k + preL g j) (row g j).length := by simp [row, markG, h]

/-- A graph of blocks of its own from base on and below hi. -/
def DGh (w : World) (base hi : Nat) (v : Value) (g : List (List Int)) : Prop :=
  ∃ u vals, v = .agg #[u] ∧ vals.length = g.length ∧ w.ownsRow base 33 1 u g.length vals ∧ Dis w base g.length vals g ∧ ∀ j, j < g.length → ∀ b, (vals.getD j undef).ownBlock = some b → b < hi
theorem DGh.of {w : World} {base : Nat} {v : Value} {g : List (List Int)} (h : DG w base v g) : DGh w base w.heap.size v g := by
  obtain ⟨u, vals, h1, h2, h3, h4⟩ := h
  exact ⟨u, vals, h1, h2, h3, h4, fun j hj b hb => ((h4.rows j hj).lt b hb).2⟩
theorem DGh.dg {w : World} {base hi : Nat} {v : Value} {g : List (List Int)} (h : DGh w base hi v g) : DG w base v g := by
  obtain ⟨u, vals, h1, h2, h3, h4, _⟩ := h
  exact ⟨u, vals, h1, h2, h3, h4⟩
theorem DGh.below {w w' : World} {base hi : Nat} {v : Value} {g : List (List Int)} (h : DGh w base hi v g) (hb : Below w.heap.size w w') : DGh w' base hi v g := by
  obtain ⟨u, vals, h1, h2, h3, h4, h5⟩ := h
  exact ⟨u, vals, h1, h2, ownsRow_below h3 hb, ⟨fun j hj => ownsRow_below (h4.rows j hj) hb, h4.dis⟩, h5⟩
theorem DGh.apart {w w' : World} {base hi lo' hi' : Nat} {v : Value} {g : List (List Int)} (h : DGh w base hi v g) (ha : Apart lo' hi' w w') (hl : hi' ≤ base) : DGh w' base hi v g := by
  obtain ⟨u, vals, h1, h2, h3, h4, h5⟩ := h
  exact ⟨u, vals, h1, h2, ownsRow_apart_hi h3 ha hl, ⟨fun j hj => ownsRow_apart_hi (h4.rows j hj) ha hl, h4.dis⟩, h5⟩
theorem Box.apart {w w' : World} {b lo hi : Nat} {T : TypeId} {v : Value} (h : Box w b T v) (ha : Apart lo hi w w') (hb : hi ≤ b) : Box w' b T v := .of ((ha.block b h.lt (.inr hb)).trans h.blk)

end Go.Proofs.YtkppbmfliejnmaaDoor

/- Walk: the program's Canonical. -/
namespace Go.Proofs.YtkppbmfliejnmaaDoor
open Go.RowKit

theorem edB_net {g : List (List Int)} (h : GOk g) : ∀ u v, u < (netL g).length → v < (netL g).length → edB g u v = ((netL g).getD v 0).testBit u := by
  intro u v hu hv
  have hl : (netL g).length = g.length := by simp [netL]
  rw [hl] at hu hv
  unfold edB
  rw [netL_getD, Bool.eq_iff_iff, decide_eq_true_eq, testBit_row h hv]
  constructor
  · intro k
    have := h.both u hu _ k
    simpa using this
  · intro k
    have := h.both v hv _ k
    simpa using this

theorem dg_nilC (w : World) (base : Nat) : DG w base (.agg #[.slice none 0 0]) [] := ⟨_, [], rfl, rfl, World.ownsRow_nil _ _ _ _, ⟨fun j hj => by simp at hj, fun i j hi => by simp at hi⟩⟩

theorem DGh.setBox {w : World} {base b hi : Nat} {v x : Value} {g : List (List Int)} (h : DGh w base hi v g) (hb : Box w b 29 x) (u : Value) : DGh (w.setCell ⟨b, 0, none⟩ u) base hi v g := by
  obtain ⟨u', vals, h1, h2, h3, h4, h5⟩ := h
  exact ⟨u', vals, h1, h2, ownsRow_setBox h3 hb (by decide) u, ⟨fun j hj => ownsRow_setBox (h4.rows j hj) hb (by decide) u, h4.dis⟩, h5⟩
theorem DGh.baseC {w : World} {base base' hi : Nat} {v : Value} {g : List (List Int)} (h : DGh w base hi v g) (hb : base' ≤ base) : DGh w base' hi v g := by
  obtain ⟨u', vals, h1, h2, h3, h4, h5⟩ := h
  exact ⟨u', vals, h1, h2, ownsRow_base h3 hb, ⟨fun j hj => ownsRow_base (h4.rows j hj) hb, h4.dis⟩, h5⟩

set_option maxRecDepth 100000 in
set_option maxHeartbeats 4000000 in
theorem implCanonical_any (v : Value) (g : List (List Int)) (w : World) (hg : Gr w v g) (hT : Tab w) :
    Calls Tryd.prog 44 #[v] w fun e w' => ∃ (u lv : Value) (gg : List (List Int)) (l : List Int) (mid : Nat), e = .returned (.tuple #[u, lv]) ∧ CanS g gg l ∧
      gg.length ≤ 16 ∧ (∀ j, (row gg j).length ≤ 16) ∧ l.length ≤ 16 ∧ w.heap.size ≤ mid ∧ mid ≤ w'.heap.size ∧ DGh w' w.heap.size mid u gg ∧ w'.ownsRow mid 2 1 lv l.length (l.map (Value.int .i64)) ∧ Below w.heap.size w w' := by
  have hg0 := hg
  obtain ⟨u, rfl, hr⟩ := hg
  obtain ⟨p, c, rfl, _, _, _⟩ := hr.shape
  have hbA := Lib.hid (below_alloc2 w (.cells #[.slice p g.length c] 29) (.cells #[.slice none 0 0] 29))
  have BX := Lib.hid ((Box.new w (.slice p g.length c) 29).alloc (.cells #[.slice none 0 0] 29))
  have BN : Hid (Box ((w.alloc (.cells #[.slice p g.length c] 29)).alloc (.cells #[.slice none 0 0] 29)) (w.heap.size + 1) 29 (.slice none 0 0)) := by
    have := Box.new (w.alloc (.cells #[.slice p g.length c] 29)) (.slice none 0 0) 29
    rw [size_alloc] at this
    exact Lib.hid this
  have HG := Lib.hid (hg0.below hbA.out)
  have HT := Lib.hid (hT.keep hbA.out)
  have h0 := hbA.out.size
  clear hr hg0 hT
  by_cases hok : GOk g ∧ g.length ≤ 8
  case neg =>
    have hd := Lib.hid (dec_false hok)
    have Hok := Lib.hid hok
    clear hok
    go_enter Tryd.func44, Tryd.ntmps44
    go_wp2_with (go_at_call 123; refine (isSmall_any _ g _ HG.out).mono ?_; rintro e w2 ⟨he, hb2⟩; rw [hd.out] at he; subst he; obtain ⟨nc, nf, nl, nB⟩ := BN.out.keep hb2)
    refine bodyPost_ret (v := .tuple #[.agg #[.slice none 0 0], .slice none 0 0]) (by simp [results, Tryd.results44, go_sem, nc]) rfl ⟨_, _, [], [], w.heap.size, rfl, .inr ⟨Hok.out, rfl, rfl⟩, by simp, fun j => by simp [row], by simp, Nat.le_refl _, Nat.le_trans (Nat.le_trans h0 hb2.size) ((Below.refl 0 w2).setCell (p := ⟨w.heap.size + 1, 0, none⟩) (Nat.zero_le _) _).size,
      ⟨_, [], rfl, rfl, World.ownsRow_nil _ _ _ _, ⟨fun j hj => by simp at hj, fun i j hi => by simp at hi⟩, fun j hj => by simp at hj⟩, World.ownsRow_nil _ _ _ _, ?_⟩
    exact (hbA.out.trans (hb2.mono h0)).setCell (by show w.heap.size ≤ w.heap.size + 1; omega) _
  have hd := Lib.hid (dec_true hok)
  have h8 := hok.2
  have h16 := hok.1.le
  obtain ⟨a, ha⟩ : ∃ a, a = netL g := ⟨_, rfl⟩
  have hal : a.length = g.length := by rw [ha]; simp [netL]
  have HAL := Lib.hid hal
  have HA := Lib.hid ha
  have HLT : Hid (∀ s ∈ a, s < 65536) := Lib.hid (by rw [ha]; exact netL_lt hok.1)
  have HEB : Hid (∀ u v, u < a.length → v < a.length → edB g u v = (a.getD v 0).testBit u) := Lib.hid (by rw [ha]; exact edB_net hok.1)
  obtain ⟨r, hr⟩ := search_some a.length (edB g)
  obtain ⟨hs1, hs2⟩ := search_same hr
  have HR := Lib.hid hr
  have HS1 : Hid ((levB g.length (edB g) g.length).head? = some r.1) := Lib.hid (by rw [← hal]; exact hs1)
  obtain ⟨o, hoe⟩ : ∃ o, o = r.1 := ⟨_, rfl⟩
  have HOE := Lib.hid hoe
  have hol : o.length = g.length := by rw [hoe, ← hal]; exact hs2.len
  have HOL := Lib.hid hol
  have HOLT : Hid (∀ u ∈ o, u < a.length) := Lib.hid (by rw [hoe]; exact hs2.lt)
  have E6 : Hid (rowsOf (indN o.length (bitE a o)) = indL g (natInts o)) := Lib.hid (by
    rw [rowsOf_indN (by omega), ha, bitE_netL hok.1 (fun v hv => by rw [← hal]; exact HOLT.out v hv)])
  have O16 := Lib.hid (show o.length ≤ 16 by omega)
  have Hok := Lib.hid hok
  clear hok ha hal hr hs1 hs2 hoe hol
  go_enter Tryd.func44, Tryd.ntmps44
  go_upto_region 5 with (first
    | (go_at_call 123; refine (isSmall_any _ g _ HG.out).mono ?_; rintro e w2 ⟨he, hb2⟩; rw [hd.out] at he; subst he; have hbx := (BX.out.keep hb2).cell)
    | (go_at_call 89; refine (netsOf_any _ g _ (HG.out.below hb2) Hok.out.1).mono ?_; rintro e w3 ⟨x, rfl, hown3, hb3⟩; obtain ⟨xp, xc, rfl, _⟩ := owns_capL hown3; have HX3 : Hid (Sl w3 70 (.slice xp a.length xc) a.length (a.map u32v)) := Lib.hid (by rw [HAL.out, HA.out]; exact Sl.of_owns hown3 (by omega)); have HC3 : Hid (CI w3 w3.heap.size (.slice xp a.length xc) (w3.alloc (.cells #[.slice xp g.length xc, .slice none 0 0, .int .u32 0, .slice none 0 0, .slice none 0 0, .slice none 0 0] 106)) [] 0 [] none (.slice none 0 0) (.slice none 0 0) (.slice none 0 0) (.slice none 0 0)) := Lib.hid ⟨rfl, below_alloc _ _, by rw [HAL.out]; exact CS.new _, World.ownsRow_nil _ _ _ _, World.ownsRow_nil _ _ _ _, rfl⟩; clear hown3)
    | (go_at_call 130; refine (grow_any w3 w3.heap.size xp xc a HLT.out (by rw [HAL.out]; exact h8) (edB g) HEB.out HX3.out a.length [] [] none 0 _ _ _ _ _ rfl ⟨rfl, by simp, by simp⟩ (by simp) rfl (fun q h => by cases h) (fun q h => by cases h) HC3.out).mono ?_; rintro e w4 ⟨rfl, ov4, cv4, bv4, fv4, hci4⟩; rw [HR.out] at hci4; have HC4 := Lib.hid hci4; clear hci4))
  have hf4 := HC4.out.bst.2.1
  rw [← HOE.out] at hf4
  obtain ⟨fp, fc, rfl, _⟩ := owns_capL hf4
  have HF4 := Lib.hid (Nums.of_owns hf4 (natInts_length o).symm (by have := O16.out; omega))
  have hc0 := HC4.out.cs.c0
  rw [HAL.out] at hc0
  have hc5 := HC4.out.cs.c5
  have HX4 := Lib.hid (HC4.out.nets HX3.out)
  have s2 := hb2.size
  rw [size_alloc, size_alloc] at s2
  have s3 := hb3.size
  have lt4 := HC4.out.cs.lt
  have HT4 := Lib.hid (((HT.out.keep hb2).keep hb3).below HC4.out.bel (by have := ((HT.out.keep hb2).keep hb3).pos; exact this))
  have BN4 := Lib.hid (((BN.out.keep hb2).keep hb3).below HC4.out.bel (by have := ((BN.out.keep hb2).keep hb3).lt; exact this))
  have HB4 := Lib.hid (((hbA.out.trans (hb2.mono h0)).trans (hb3.mono (by omega))).trans (HC4.out.bel.mono (by omega)))
  have hne : w.heap.size + 1 ≠ w3.heap.size := by omega
  have hne' : w3.heap.size ≠ w.heap.size + 1 := by omega
  have o16 := O16.out
  clear hf4 hb2 hb3 HC4 HC3 hbx
  go_region_held3 (fun W => W.cell? ⟨w3.heap.size, 0, none⟩ = some (.slice xp g.length xc) ∧ W.cell? ⟨w3.heap.size, 5, none⟩ = some (.slice fp o.length fc))
    (first | exact ⟨hc0, hc5⟩ | exact ⟨hb5'.at' hc0, hb5'.at' hc5⟩ | exact ⟨hb6'.at' hc0, hb6'.at' hc5⟩ | exact ⟨hb7'.at' hc0, hb7'.at' hc5⟩ | exact ⟨(World.cell?_setCell_far _ _ _ _ hne).trans (hb7'.at' hc0), (World.cell?_setCell_far _ _ _ _ hne).trans (hb7'.at' hc5)⟩ | go_keep)
    (first
      | (go_at_call 116; refine (induced_any _ _ a o (by rw [HAL.out]; exact h16) HLT.out HOLT.out O16.out _ (by rw [← HAL.out]; exact HX4.out.below (below_dN (Below.refl _ _) 1)) (HF4.out.below (below_dN (Below.refl _ _) 1))).mono ?_; rintro e w5 ⟨u5, rfl, ho5, hb5⟩; have HX5 : Hid (Sl w5 70 u5 (indN o.length (bitE a o)).length ((indN o.length (bitE a o)).map u32v)) := Lib.hid (by rw [indN_length]; exact Sl.of_owns ho5 (by omega)); have hb5' : Below w4.heap.size w4 w5 := (below_dN (Below.refl _ _) 1).trans hb5; clear ho5)
      | (go_at_call 118; refine (graph_any _ (indN o.length (bitE a o)) (indN_lt16 o16) (by rw [indN_length]; omega) _ HX5.out (HT4.out.keep hb5')).mono ?_; rintro e w6 ⟨u6, rfl, hd6, hb6⟩; rw [E6.out] at hd6; obtain ⟨p6, c6, rfl⟩ := hd6.shape; have HD6 := Lib.hid (DGh.of hd6); have hb6' : Below w4.heap.size w4 w6 := hb5'.trans (hb6.mono hb5'.size); clear hd6)
      | (go_at_call 125; refine (wide_any _ (natInts o) _ (HF4.out.below hb6')).mono ?_; rintro e w7 ⟨lv, rfl, ho7, hb7⟩; obtain ⟨lp, lc, rfl, _⟩ := owns_capL ho7; have HO7 := Lib.hid ho7; have HD7 := Lib.hid (HD6.out.below hb7); have hb7' : Below w4.heap.size w4 w7 := hb6'.trans (hb7.mono hb6'.size); obtain ⟨mc, mf, ml, mB⟩ := BN4.out.keep hb7'; clear ho7))
  all_goals go_wp2
  have hi2 : (indL g (natInts o)).length = g.length := by unfold indL; rw [matG_length, natInts_length]; exact HOL.out
  have s4 := HB4.out.size
  have s5 := hb5'.size
  have s6 := hb6.size
  refine bodyPost_ret (v := .tuple #[.agg #[.slice p6 (indL g (natInts o)).length c6], .slice lp (natInts o).length lc]) (by simp [results, Tryd.results44, go_sem, mc]) rfl ⟨_, _, indL g (natInts o), natInts o, w6.heap.size, rfl, .inl ⟨Hok.out, o, by rw [HOE.out]; exact HS1.out, rfl, rfl⟩,
    by omega, fun j => Nat.le_trans (matG_row_le j) (by rw [natInts_length]; exact o16), by rw [natInts_length]; exact o16, by omega, Nat.le_trans hb7.size ((Below.refl 0 w7).setCell (p := ⟨w.heap.size + 1, 0, none⟩) (Nat.zero_le _) _).size, (HD7.out.setBox ⟨mc, mf, ml, mB⟩ _).baseC (by omega), ownsRow_setBox HO7.out ⟨mc, mf, ml, mB⟩ (by decide) _, ?_⟩
  exact (HB4.out.trans (hb7'.mono s4)).setCell (by show w.heap.size ≤ w.heap.size + 1; omega) _

end Go.Proofs.YtkppbmfliejnmaaDoor

/- Walks: automorphisms, Symmetries. -/
namespace Go.Proofs.YtkppbmfliejnmaaDoor
open Go.RowKit

set_option maxRecDepth 100000 in
set_option maxHeartbeats 2000000 in
theorem automorphisms_any (w1 : World) (hp : Option Addr) (hc n : Nat) (E : Nat → Nat → Bool) (hm0 : 0 < n) (n8 : n ≤ 8) (hK : cntF n E E n [] ≤ 900000000) (w : World) (hlo : w1.heap.size < w.heap.size) (hbel : Below w1.heap.size w1 w) (hM : Box w w1.heap.size 2 (.int .i64 0)) (hN : NE w (.slice hp n hc) n E) :
    Calls Tryd.prog 144 #[.slice hp n hc, .func (.func 145) #[] #[.pointer (some ⟨w1.heap.size, 0, none⟩)]] w fun e w' => e = .returned (.tuple #[]) ∧ Below w1.heap.size w1 w' ∧ Box w' w1.heap.size 2 (.int .i64 ((cntF n E E n [] : Nat) : Int)) := by
  obtain ⟨W0, hW0⟩ : ∃ W0, W0 = (w.alloc (.cells #[.func (.func 145) #[] #[.pointer (some ⟨w1.heap.size, 0, none⟩)]] 115)).alloc (.cells #[.slice hp n hc, .slice hp n hc, .slice none 0 0, .int .u32 0, .func (.func 205) #[] #[.pointer (some ⟨w.heap.size, 0, none⟩)]] 150) := ⟨_, rfl⟩
  have hb0 : Below w.heap.size w W0 := by rw [hW0]; exact below_alloc2 _ _ _
  have hFS : FS W0 (w.heap.size + 1) (.slice hp n hc) (.slice hp n hc) (.slice none 0 0) (.int .u32 0) (.func (.func 205) #[] #[.pointer (some ⟨w.heap.size, 0, none⟩)]) := by
    rw [hW0]
    have := FS.new (v0 := .slice hp n hc) (v1 := .slice hp n hc) (v2 := .slice none 0 0) (v3 := .int .u32 0) (v4 := .func (.func 205) #[] #[.pointer (some ⟨w.heap.size, 0, none⟩)]) (w.alloc (.cells #[.func (.func 145) #[] #[.pointer (some ⟨w1.heap.size, 0, none⟩)]] 115))
    rw [size_alloc] at this
    exact this
  have HI : Hid (FcI w1 W0 w.heap.size (w.heap.size + 1) (.slice hp n hc) n E [] 0 (.slice none 0 0) 0) := Lib.hid
    { bel := hbel.trans (hb0.mono hbel.size)
      lo1 := hlo
      lo2 := Nat.lt_succ_self _
      cs := hFS
      ord := World.ownsRow_nil _ _ _ _
      many := hM.keep hb0
      each := by rw [hW0]; exact (Box.new _ _ _).alloc _
      net := hN.next hb0 }
  have GROW := Lib.hid (cntGrow_any w1 w.heap.size (w.heap.size + 1) hp hc n E hm0 n8 (cntF n E E n []) hK n [] 0 0 (.slice none 0 0) W0 rfl (fun x hx => by cases hx) (by simp) (by omega) HI.out)
  obtain ⟨R, hR⟩ : ∃ R, R = cntF n E E n [] := ⟨_, rfl⟩
  rw [← hR] at GROW ⊢
  obtain ⟨sz, hsz⟩ : ∃ sz, sz = w.heap.size := ⟨_, rfl⟩
  clear hlo hbel hM hN hb0 hFS HI hR hK
  go_enter Tryd.func144, Tryd.ntmps144
  go_upto_region 2 with fail
  rw [← hW0]
  clear hW0
  go_wp2_with (go_at_call 197; refine GROW.out.mono ?_; rintro e w2 ⟨rfl, ov2, hI2⟩; have HI2 := Lib.hid hI2; clear hI2)
  go_end0
  have := HI2.out.many
  rw [Nat.zero_add] at this
  exact ⟨rfl, HI2.out.bel, this⟩

set_option maxRecDepth 100000 in
set_option maxHeartbeats 2000000 in
theorem implSymmetries_yes (v : Value) (g : List (List Int)) (w : World) (hg : Gr w v g) (hok : GOk g) (h8 : g.length ≤ 8) (hT : Tab w) :
    Calls Tryd.prog 59 #[v] w fun e w' => e = .returned (.int .i64 ((cntF g.length (ofG g) (ofG g) g.length [] : Nat) : Int)) ∧ Below w.heap.size w w' := by
  have hg0 := hg
  obtain ⟨u, rfl, hr⟩ := hg
  obtain ⟨p, c, rfl, _⟩ := hr.shape
  obtain ⟨W0, hW0⟩ : ∃ W0, W0 = w.alloc (.cells #[.slice p g.length c] 29) := ⟨_, rfl⟩
  have hb0 : Below w.heap.size w W0 := by rw [hW0]; exact below_alloc _ _
  have HB0 := Lib.hid hb0
  have HBG : Hid (Box W0 w.heap.size 29 (.slice p g.length c)) := Lib.hid (by rw [hW0]; exact Box.new _ _ _)
  have HG := Lib.hid (hg0.below hb0)
  have HT := Lib.hid (hT.keep hb0)
  have HOK := Lib.hid hok
  have HSM := Lib.hid (dec_true (show GOk g ∧ g.length ≤ 8 from ⟨hok, h8⟩))
  have c0 := HBG.out.cell
  have hpos := hok.pos
  have HK : Hid (cntF g.length (ofG g) (ofG g) g.length [] ≤ 900000000) := Lib.hid (by
    refine Nat.le_trans (cntF_le _ _ _ _ _) (Nat.le_trans (Nat.pow_le_pow_left h8 _) (Nat.le_trans (Nat.pow_le_pow_right (by decide) h8) (by decide)))
    )
  clear hr hg0 hb0 hT hok
  go_enter Tryd.func59, Tryd.ntmps59
  go_upto_region 1 with fail
  rw [← hW0]
  clear hW0
  go_upto_region 3 with (go_at_call 123; refine (isSmall_any _ g _ HG.out).mono ?_; rintro e w1 ⟨he, hb1⟩; rw [HSM.out] at he; subst he; have HB1 := Lib.hid hb1; have d0 := hb1.at' c0; clear hb1)
  obtain ⟨w2, hw2⟩ : ∃ w2, w2 = w1.alloc (.cells #[.int .i64 0] 2) := ⟨_, rfl⟩
  have hb12 : Below w1.heap.size w1 w2 := by rw [hw2]; exact below_alloc _ _
  have HM2 : Hid (Box w2 w1.heap.size 2 (.int .i64 0)) := Lib.hid (by rw [hw2]; exact Box.new _ _ _)
  have hs12 : w1.heap.size < w2.heap.size := by rw [hw2, size_alloc]; omega
  have HB12 := Lib.hid hb12
  have HB2 := Lib.hid (HB1.out.trans (hb12.mono HB1.out.size))
  have d2 := hb12.at' d0
  go_upto_region 4 with fail
  rw [← hw2]
  clear hw2 hb12 d0 c0
  go_wp2_with (first
    | (go_at_call 144; refine (automorphisms_any w1 xp xc g.length (ofG g) hpos h8 HK.out _ hs13 (HB12.out.trans (HB23.out.mono (Nat.le_of_lt hs12))) (HM2.out.keep HB23.out) HNA.out).mono ?_; rintro e w4 ⟨rfl, hb4, hm4⟩; have cm := hm4.cell; have HB4 := Lib.hid hb4; clear hb4 hm4)
    | (go_at_call 89; refine (netsOf_any _ g _ (HG.out.below HB2.out) HOK.out).mono ?_; rintro e w3 ⟨x, rfl, ho, hb3⟩; have HNA := Lib.hid (neOfF HOK.out ho); obtain ⟨xp, xc, rfl, _⟩ := owns_capL ho; have HB23 := Lib.hid hb3; have hs13 := Nat.lt_of_lt_of_le hs12 hb3.size; clear ho hb3))
  go_ret
  exact ⟨rfl, HB0.out.trans ((HB1.out.trans (HB4.out.mono HB1.out.size)).mono HB0.out.size)⟩

end Go.Proofs.YtkppbmfliejnmaaDoor

/- Walks: a copy of a graph; the neighbours that are left. -/
namespace Go.Proofs.YtkppbmfliejnmaaDoor
open Go.RowKit

theorem box_stepB {w wr wc w7 : World} {B k b7 c8 : Nat} {ov x rv : Value} {vals : List Value}
    (hbel : Below B w wr) (hsz : B + 2 ≤ wr.heap.size) (hbc : Below wr.heap.size wr wc)
    (hb2 : Box wr B 29 x) (hb3 : Box wr (B + 1) 29 ov) (hown : wr.ownsRow (B + 2) 33 1 ov k vals)
    (hown7 : w7.ownsRow (B + 2) 33 1 (.slice (some ⟨b7, 0, none⟩) (k + 1) c8) (k + 1) (vals ++ [rv])) (hg7 : wc.grownBy w7 ov.ownBlock) :
    ∃ W, W = w7.setCell ⟨B + 1, 0, none⟩ (.slice (some ⟨b7, 0, none⟩) (k + 1) c8) ∧
      Below B w W ∧ B + 2 ≤ W.heap.size ∧ Box W B 29 x ∧ Box W (B + 1) 29 (.slice (some ⟨b7, 0, none⟩) (k + 1) c8) ∧ W.ownsRow (B + 2) 33 1 (.slice (some ⟨b7, 0, none⟩) (k + 1) c8) (k + 1) (vals ++ [rv]) ∧
      (∀ base size n v (xs : List Value), wc.ownsRow base 2 size v n xs → W.ownsRow base 2 size v n xs) := by
  have hownc := ownsRow_below hown hbc
  have hszc := hbc.size
  have hsz7 := hg7.size
  have hb7 : Below (B + 2) wc w7 := below_grown (Below.refl _ _) hownc hg7 (Nat.le_refl _) (by omega)
  have hb37 : Box w7 (B + 1) 29 ov := (hb3.keep hbc).below hb7 (by omega)
  have hb9 : Below (B + 1) w7 (w7.setCell ⟨B + 1, 0, none⟩ (.slice (some ⟨b7, 0, none⟩) (k + 1) c8)) := (Below.refl _ _).setCell (by show B + 1 ≤ B + 1; omega) _
  have hall : Below (B + 1) wr (w7.setCell ⟨B + 1, 0, none⟩ (.slice (some ⟨b7, 0, none⟩) (k + 1) c8)) := ((hbc.mono (by omega)).trans (hb7.mono (by omega))).trans hb9
  refine ⟨_, rfl, hbel.trans (hall.mono (by omega)), by have := hall.size; omega, hb2.below hall (by omega), hb37.set _, ownsRow_setBox hown7 hb37 (by decide) _, fun base size n v xs h => ?_⟩
  exact ownsRow_setBox (ownsRow_other h hownc hg7 (by decide)) hb37 (by decide) _

theorem three_boxes (w : World) (u : Value) : ∃ W, W = ((w.alloc (.cells #[u] 29)).alloc (.cells #[.slice none 0 0] 29)).alloc (.cells #[.slice none 0 0] 29) ∧ Below w.heap.size w W ∧ W.heap.size = w.heap.size + 3 ∧
    Box W w.heap.size 29 u ∧ Box W (w.heap.size + 1) 29 (.slice none 0 0) ∧ Box W (w.heap.size + 1 + 1) 29 (.slice none 0 0) := by
  refine ⟨_, rfl, below_alloc3 _ _ _ _, by rw [size_alloc, size_alloc, size_alloc], ((Box.new w _ _).alloc _).alloc _, ?_, ?_⟩
  · have := (Box.new (w.alloc (.cells #[u] 29)) (.slice none 0 0) 29).alloc (.cells #[.slice none 0 0] 29)
    rw [size_alloc] at this
    exact this
  · have := Box.new ((w.alloc (.cells #[u] 29)).alloc (.cells #[.slice none 0 0] 29)) (.slice none 0 0) 29
    rw [size_alloc, size_alloc] at this
    exact this

set_option maxRecDepth 100000 in
set_option maxHeartbeats 4000000 in
theorem l1CopyGraph_any (v : Value) (g : List (List Int)) (hl : g.length ≤ 1000) (hrl : ∀ j, (row g j).length ≤ 1000) (w : World) (hg : Gr w v g) :
    Calls Tryd.prog 216 #[v] w fun e w' => ∃ u, e = .returned u ∧ SG w' w.heap.size u g ∧ Below w.heap.size w w' := by
  obtain ⟨u, rfl, hr⟩ := hg
  obtain ⟨p, c, rfl, _⟩ := hr.shape
  have START := Lib.hid (three_boxes w (.slice p g.length c))
  have HR := Lib.hid hr
  have HRL := Lib.hid hrl
  clear hr hrl
  go_enter Tryd.func216, Tryd.ntmps216
  go_upto_region 3 with fail
  go_loopw [4] (fun i wr => ∃ (k : Nat) (ov : Value) (vals : List Value), k ≤ g.length ∧ i = .int .i64 k ∧ Below w.heap.size w wr ∧ Below (w.heap.size + 1) wr wr ∧ w.heap.size + 1 + 2 ≤ wr.heap.size ∧ Box wr w.heap.size 29 (.slice p g.length c) ∧
      Box wr (w.heap.size + 1) 29 (.slice none 0 0) ∧ Box wr (w.heap.size + 1 + 1) 29 ov ∧ wr.ownsRow (w.heap.size + 1 + 2) 33 1 ov k vals ∧ vals.length = k ∧
      ∀ j, j < k → wr.ownsRow (w.heap.size + 1 + 2) 2 1 (vals.getD j undef) (row g j).length ((row g j).map (Value.int .i64)))
    (fun i _ => g.length - (intOf i).toNat)
  case atStart =>
    obtain ⟨W, rfl, h1, h2, h3, h4, h5⟩ := START.out
    exact ⟨0, _, [], Nat.zero_le _, rfl, h1, Below.refl _ _, by omega, h3, h4, h5, World.ownsRow_nil _ _ _ _, rfl, fun j hj => by omega⟩
  case round =>
    obtain ⟨k, ov, vals, hk, rfl, hbel, _, hsz, hbx, hb2, hb3, hown, hvl, hrows⟩ := hrel
    have Hvl := Lib.hid hvl
    have Hrows := Lib.hid hrows
    have Hb2 := Lib.hid hb2
    have Hb3 := Lib.hid hb3
    have Hbx := Lib.hid hbx
    have Hown := Lib.hid hown
    have cbx := hbx.cell
    obtain ⟨p9, c9, rfl⟩ : ∃ p c, ov = .slice p k c := by
      rcases hown.2 with ⟨h1, h2⟩ | ⟨g1, cap, cur, h1, _⟩
      · exact ⟨none, 0, by rw [h1, h2]⟩
      · exact ⟨_, _, h1⟩
    clear hvl hrows hb3 hb2 hown hbx
    by_cases hlt : k < g.length
    · obtain ⟨b, o, rp, rc, rfl, hcell, hnums⟩ := (HR.out.below hbel).get hlt
      change wr.cell? _ = some (.slice rp (row g k).length rc) at hcell
      change Nums wr _ _ (.slice rp (row g k).length rc) (row g k) at hnums
      have Hnums := Lib.hid hnums
      obtain ⟨c3, f3, _, _⟩ := Hb3.out
      obtain ⟨m, hm⟩ : ∃ m, m = (row g k).length := ⟨_, rfl⟩
      have Hm := Lib.hid hm
      have hrk := HRL.out k
      rw [← hm] at hcell Hnums hrk
      clear hnums hm
      go_upto_region 5 with fail
      go_region_law (first
        | (go_simp; go_at_call 200; refine (l1Copy_any _ m ((row g k).map (Value.int .i64)) (fun x hx => by obtain ⟨y, _, rfl⟩ := List.mem_map.1 hx; rfl) (by rw [List.length_map]; exact Hm.out.symm) _ (Sl.below (show Sl wr 2 (.slice rp m rc) m _ from (by have h := Hnums.out; unfold Nums at h; rw [← Hm.out] at h; exact h)) (below_dN (Below.refl _ _) 1))).mono ?_; rintro e w5 ⟨rv, rfl, hown5, hb5⟩; obtain ⟨rvp, rvc, hrv⟩ : ∃ p c, rv = .slice p m c := (by rcases hown5.2 with ⟨rfl, h0⟩ | ⟨b, c, _, rfl, _⟩; exact ⟨none, 0, by rw [h0]⟩; exact ⟨_, _, rfl⟩); subst hrv; have hb5' : Below wr.heap.size wr w5 := ⟨hb5.os, hb5.tape, hb5.output, hb5.size, hb5.block⟩; have hown5' : w5.ownsRow wr.heap.size 2 1 (.slice rvp m rvc) m ((row g k).map (Value.int .i64)) := hown5; have hownc := ownsRow_below Hown.out hb5'; have hs5 := hb5'.size; have hbx5 := hb5'.at' c3; have hbx5a := fun o => (below_alloc w5 o).at' hbx5; have hcx5 := hb5'.at' cbx; have hcx5a := fun o => (below_alloc w5 o).at' hcx5; have hcl5 := hb5'.at' hcell; clear hb5 hown5)
        | (refine step_app1s ty_rows rfl rfl rfl hownc rfl rfl (by omega) (by omega) ?_; intro b7 c8 w7 hown7 hg7; have hb7 := below_grown (Below.refl (w.heap.size + 1 + 2) w5) hownc hg7 (Nat.le_refl _) (by omega); have hob7 := hb7.at (by omega) hbx5; have hof7 := (hb7.frozen (p := ⟨w.heap.size + 1 + 1, 0, none⟩) (by show w.heap.size + 1 + 1 < _; omega)).trans ((hb5'.frozen (p := ⟨w.heap.size + 1 + 1, 0, none⟩) (by show w.heap.size + 1 + 1 < _; omega)).trans f3)))
      all_goals go_wp2
      all_goals go_roundw
      all_goals first
        | (simp [intOf]; omega)
        | skip
      all_goals
        have hb0 : Below (w.heap.size + 1) wr wr := Below.refl _ _
        obtain ⟨W, hW, r1, r2, r3, r4, r5, r6⟩ := box_stepB hb0 hsz hb5' Hb2.out Hb3.out Hown.out hown7 hg7
        subst hW
        have hbW : Below w.heap.size w _ := hbel.trans (r1.mono (by omega))
        refine ⟨k + 1, _, _, by omega, by go_num, hbW, Below.refl _ _, r2, Hbx.out.below r1 (by omega), r3, r4, r5, by simp [Hvl.out], fun j hj => ?_⟩
        by_cases e : j = k
        · subst e
          rw [show (vals ++ [Value.slice rvp m rvc]).getD j undef = .slice rvp m rvc from by rw [← Hvl.out]; exact getD_append_last _ _ _]
          rw [← Hm.out]
          exact ownsRow_base (r6 _ _ _ _ _ hown5') (by omega)
        · rw [getD_append_left _ _ _ _ (by have := Hvl.out; omega)]
          exact r6 _ _ _ _ _ (ownsRow_below (Hrows.out j (by omega)) hb5')
    · obtain rfl : k = g.length := by omega
      obtain ⟨k2c, k2f, _⟩ := Hb2.out
      obtain ⟨k3c, k3f, _⟩ := Hb3.out
      go_wp2
      refine bodyPost_ret (v := .agg #[.slice p9 g.length c9]) (by simp [results, Tryd.results216, go_sem, k2c]) rfl ⟨_, rfl, ⟨_, vals, rfl, Hvl.out, ?_, fun j hj => ?_⟩, ?_⟩
      · exact ownsRow_base (ownsRow_setBox Hown.out Hb2.out (by decide) _) (by omega)
      · exact Nums.of_owns (ownsRow_setBox (Hrows.out j hj) Hb2.out (by decide) _) rfl (by have := HRL.out j; omega)
      · exact hbel.setCell (by show w.heap.size ≤ w.heap.size + 1; omega) _

end Go.Proofs.YtkppbmfliejnmaaDoor

/- Two boxes. -/
namespace Go.Proofs.YtkppbmfliejnmaaDoor
open Go.RowKit

theorem two_boxesM (w : World) (a b : Value) (T1 T2 : TypeId) : ∃ W, W = (w.alloc (.cells #[a] T1)).alloc (.cells #[b] T2) ∧ Below w.heap.size w W ∧ W.heap.size = w.heap.size + 2 ∧ Box W w.heap.size T1 a ∧ Box W (w.heap.size + 1) T2 b := by
  have h2 := Box.new (w.alloc (.cells #[a] T1)) b T2
  rw [size_alloc] at h2
  exact ⟨_, rfl, below_alloc2 _ _ _, by rw [size_alloc, size_alloc], (Box.new w a T1).alloc _, h2⟩

end Go.Proofs.YtkppbmfliejnmaaDoor

/- Walks: the orders of a graph's vertices, of both; Renamed, of both. -/
namespace Go.Proofs.YtkppbmfliejnmaaDoor
open Go.RowKit

set_option maxRecDepth 100000 in
set_option maxHeartbeats 1000000 in
theorem specOrderOk_any (v lv : Value) (g : List (List Int)) (l : List Int) (w : World) (hg : Gr w v g) (hn : Nums w 2 .i64 lv l) :
    Calls Tryd.prog 134 #[v, lv] w fun e w' => e = .returned (.bool (dec (GOk g ∧ OrdOk g.length l))) ∧ Below w.heap.size w w' := by
  have hg0 := hg
  obtain ⟨u, rfl, hr⟩ := hg
  obtain ⟨p, c, rfl, _, _, hgl⟩ := hr.shape
  obtain ⟨lp, lc, rfl, _⟩ := id hn.shape
  have hbA := Lib.hid (below_alloc w (.cells #[.slice p g.length c] 29))
  have BX := Lib.hid (Box.new w (.slice p g.length c) 29)
  have HG := Lib.hid (hg0.below hbA.out)
  have HN := Lib.hid (hn.below hbA.out)
  clear hr hg0 hn
  by_cases hok : GOk g
  · have hd := dec_true hok
    have Hok := Lib.hid hok
    clear hok
    go_enter Tryd.func134, Tryd.ntmps134
    go_wp2_with (first
      | (go_at_call 203; refine (l1Order_any _ _ g l hgl _ (HG.out.below hb2) (HN.out.below hb2)).mono ?_; rintro e w3 ⟨rfl, hb3⟩)
      | (go_at_call 73; refine (specGraphOk_any _ g _ HG.out).mono ?_; rintro e w2 ⟨rfl, hb2⟩; have hbx := (BX.out.keep hb2).cell))
    go_ret
    exact ⟨ret_bool (dec_congr ⟨fun h => ⟨Hok.out, h⟩, fun h => h.2⟩), (hbA.out.trans (hb2.mono hbA.out.size)).trans (hb3.mono (Nat.le_trans hbA.out.size hb2.size))⟩
  · have hd := dec_false hok
    have Hok := Lib.hid hok
    clear hok
    go_enter Tryd.func134, Tryd.ntmps134
    go_wp2_with (go_at_call 73; refine (specGraphOk_any _ g _ HG.out).mono ?_; rintro e w2 ⟨rfl, hb2⟩)
    go_ret
    exact ⟨ret_bool (false_dec fun h => Hok.out h.1), hbA.out.trans (hb2.mono hbA.out.size)⟩

set_option maxRecDepth 100000 in
set_option maxHeartbeats 1000000 in
theorem implOrderOk_any (v lv : Value) (g : List (List Int)) (l : List Int) (w : World) (hg : Gr w v g) (hn : Nums w 2 .i64 lv l) :
    Calls Tryd.prog 115 #[v, lv] w fun e w' => e = .returned (.bool (dec (GOk g ∧ OrdOk g.length l))) ∧ Below w.heap.size w w' := by
  have hg0 := hg
  obtain ⟨u, rfl, hr⟩ := hg
  obtain ⟨p, c, rfl, _, _, hgl⟩ := hr.shape
  obtain ⟨lp, lc, rfl, _, _, hll, _⟩ := id hn.shape
  have hbA := Lib.hid (below_alloc w (.cells #[.slice p g.length c] 29))
  have BX := Lib.hid (Box.new w (.slice p g.length c) 29)
  have HG := Lib.hid (hg0.below hbA.out)
  have HN := Lib.hid (hn.below hbA.out)
  clear hr hg0 hn
  by_cases hok : GOk g
  case neg =>
    have hd := dec_false hok
    have Hok := Lib.hid hok
    clear hok
    go_enter Tryd.func115, Tryd.ntmps115
    go_wp2_with (go_at_call 87; refine (implGraphOk_any _ g _ HG.out).mono ?_; rintro e w2 ⟨rfl, hb2⟩)
    go_ret
    exact ⟨ret_bool (false_dec fun h => Hok.out h.1), hbA.out.trans (hb2.mono hbA.out.size)⟩
  have hd := dec_true hok
  have Hok := Lib.hid hok
  clear hok
  by_cases hlen : l.length = g.length
  case neg =>
    have hne : ((l.length : Int) != (g.length : Int)) = true := by simp; omega
    have Hlen := Lib.hid hlen
    clear hlen
    go_enter Tryd.func115, Tryd.ntmps115
    go_wp2_with (go_at_call 87; refine (implGraphOk_any _ g _ HG.out).mono ?_; rintro e w2 ⟨rfl, hb2⟩; have hbx := (BX.out.keep hb2).cell)
    go_ret
    exact ⟨ret_bool (false_dec fun h => Hlen.out h.2.1), hbA.out.trans (hb2.mono hbA.out.size)⟩
  have hne : ((l.length : Int) != (g.length : Int)) = false := by simp; omega
  have Hlen := Lib.hid hlen
  clear hlen
  go_enter Tryd.func115, Tryd.ntmps115
  go_wp2_with (first
    | (go_at_call 177; refine (increasing_any _ _ g.length (by omega) (by omega) _ (Nums.of_owns hown4 (by simp) hll)).mono ?_; rintro e w5 ⟨rfl, rfl⟩)
    | (go_at_call 192; refine (sorted_any w2.heap.size _ l hll _ (by rw [size_alloc]; omega) (cell_new _ _ _) (Held.of_nums ((HN.out.below hb2).below (below_alloc w2 _)))).mono ?_; rintro e w4 ⟨sv, rfl, hown4, hb4⟩; have hbx4 := (((BX.out.keep hb2).alloc (.cells #[.slice lp l.length lc] 33)).keep hb4).cell)
    | (go_at_call 193; refine (values_any _ _ _ _).mono ?_; rintro e w3 ⟨rfl, rfl⟩)
    | (go_at_call 87; refine (implGraphOk_any _ g _ HG.out).mono ?_; rintro e w2 ⟨rfl, hb2⟩; have hbx := (BX.out.keep hb2).cell))
  go_ret
  have hb := ((hbA.out.trans (hb2.mono hbA.out.size)).alloc (Nat.le_trans hbA.out.size hb2.size) (.cells #[.slice lp l.length lc] 33)).trans (hb4.mono (by rw [size_alloc]; have := hbA.out.size; have := hb2.size; omega))
  exact ⟨ret_bool (dec_congr ⟨fun h => ⟨Hok.out, (ordOk_sort Hlen.out).1 h⟩, fun h => (ordOk_sort Hlen.out).2 h.2⟩), hb⟩

end Go.Proofs.YtkppbmfliejnmaaDoor
