/- Walk: the law FnExactComposedModel: two graphs, a model, a graph, a model; a model and whether there is one (printed by wip/mkMm.py). -/
import Derived.Test.YtihlcmenfopaiaaDoorMmQ31
import Derived.Test.YtihlcmenfopaiaaDoorMmQ36
import Derived.Test.YtihlcmenfopaiaaDoorMmQ41
import Derived.Test.YtihlcmenfopaiaaDoorMmQ39
namespace Go.Proofs.YtihlcmenfopaiaaDoor
open Go.RowKit

def SzG (g : List (List Int)) : Prop := g.length ≤ 1048576 ∧ ∀ j, j < g.length → (row g j).length ≤ 1048576
theorem OwnG.gr' {w : World} {base : Nat} {v : Value} {g : List (List Int)} (h : OwnG w base v g) (hs : SzG g) : Gr w v g :=
  h.gr (by have := hs.1; omega) fun j hj => by have := hs.2 j hj; omega
theorem five_boxesM (w : World) (a b c d e : Value) (T1 T2 T3 T4 T5 : TypeId) : ∃ W, W = ((((w.alloc (.cells #[a] T1)).alloc (.cells #[b] T2)).alloc (.cells #[c] T3)).alloc (.cells #[d] T4)).alloc (.cells #[e] T5) ∧ Below w.heap.size w W ∧ W.heap.size = w.heap.size + 5 ∧
    Box W w.heap.size T1 a ∧ Box W (w.heap.size + 1) T2 b ∧ Box W (w.heap.size + 2) T3 c ∧ Box W (w.heap.size + 3) T4 d ∧ Box W (w.heap.size + 4) T5 e := by
  obtain ⟨W1, h1, k1, k2, k3, k4, k5⟩ := three_boxesM w a b c T1 T2 T3
  have hd := below_alloc W1 (.cells #[d] T4)
  have he := below_alloc (W1.alloc (.cells #[d] T4)) (.cells #[e] T5)
  have x4 := Box.new W1 d T4
  have x5 := Box.new (W1.alloc (.cells #[d] T4)) e T5
  rw [size_alloc] at x5
  rw [k2] at x4 x5
  exact ⟨_, by rw [h1], (k1.trans (hd.mono k1.size)).trans (he.mono (Nat.le_trans k1.size hd.size)), by rw [size_alloc, size_alloc, k2], (k3.keep hd).keep he, (k4.keep hd).keep he, (k5.keep hd).keep he, x4.keep he, x5⟩

/-- What stands after some of the copies. -/
structure StM (W2 w' : World) (ys : List (Value × List (List Int))) : Prop where
  bel : Below W2.heap.size W2 w'
  own : ∀ y ∈ ys, OwnG w' W2.heap.size y.1 y.2
theorem StM.next {W2 w' w'' : World} {ys : List (Value × List (List Int))} (h : StM W2 w' ys) (hb : Below w'.heap.size w' w'') : StM W2 w'' ys :=
  ⟨h.bel.trans (hb.mono h.bel.size), fun y hy => (h.own y hy).below hb⟩
theorem StM.add {W2 w' w'' : World} {ys : List (Value × List (List Int))} {u : Value} {g : List (List Int)} (h : StM W2 w' ys) (hb : Below w'.heap.size w' w'') (ho : OwnG w'' w'.heap.size u g) : StM W2 w'' ((u, g) :: ys) :=
  ⟨(h.next hb).bel, fun y hy => by
    rcases List.mem_cons.1 hy with rfl | h1
    · exact ho.lower h.bel.size
    · exact (h.next hb).own y h1⟩

set_option maxRecDepth 100000 in
set_option maxHeartbeats 4000000 in
theorem lawComposedModel_any (v0 v1 v2 v3 v4 : Value) (g p M q U : List (List Int)) (w : World) (h0 : ArgG w v0 g) (h1 : ArgG w v1 p) (h2 : ArgG w v2 M) (h3 : ArgG w v3 q) (h4 : ArgG w v4 U) (hT : Tab w) :
    Calls Tryd.prog 4 #[v0, v1, v2, v3, v4] w fun e w' => e = .returned (.bool true) ∧ Below w.heap.size w w' := by
  have K0 := Lib.hid h0
  obtain ⟨_, rfl, a0p, a0c, _, rfl, _⟩ := h0
  have K1 := Lib.hid h1
  obtain ⟨_, rfl, a1p, a1c, _, rfl, _⟩ := h1
  have K2 := Lib.hid h2
  obtain ⟨_, rfl, a2p, a2c, _, rfl, _⟩ := h2
  have K3 := Lib.hid h3
  obtain ⟨_, rfl, a3p, a3c, _, rfl, _⟩ := h3
  have K4 := Lib.hid h4
  obtain ⟨_, rfl, a4p, a4c, _, rfl, _⟩ := h4
  obtain ⟨W0, hW0, hbA, SZ0, B0, B1, B2, B3, B4⟩ := five_boxesM w (.slice a0p g.length a0c) (.slice a1p p.length a1c) (.slice a2p M.length a2c) (.slice a3p q.length a3c) (.slice a4p U.length a4c) 24 24 39 24 39
  have HBA := Lib.hid hbA
  have HT := Lib.hid (hT.keep hbA)
  have HA0 := Lib.hid (K0.out.below hbA)
  have HX0 := Lib.hid B0
  have HA1 := Lib.hid (K1.out.below hbA)
  have HX1 := Lib.hid B1
  have HA2 := Lib.hid (K2.out.below hbA)
  have HX2 := Lib.hid B2
  have HA3 := Lib.hid (K3.out.below hbA)
  have HX3 := Lib.hid B3
  have HA4 := Lib.hid (K4.out.below hbA)
  have HX4 := Lib.hid B4
  clear hT hbA SZ0 K0 B0 K1 B1 K2 B2 K3 B3 K4 B4
  go_enter Tryd.func4, Tryd.ntmps4
  go_upto_region 1 with fail
  rw [← hW0]
  clear hW0
  have c0 := (HX0.out).cell
  go_upto_region 3 with (go_at_call 11; refine (szGraph_any _ g 1048576 (by decide) (by decide) _ HA0.out).mono ?_; rintro e w1s ⟨⟨z0, rfl, hz1, hz2, hz3⟩, hb⟩)
  have HB1 : Hid (Below W0.heap.size W0 w1s) := Lib.hid hb
  clear hb c0
  by_cases hz : z0 < 0
  · clear hz3
    go_wp2
    go_ret
    exact ⟨rfl, HBA.out.trans (HB1.out.mono HBA.out.size)⟩
  have L0 : Hid (SzG g) := Lib.hid (by
    obtain ⟨hl1, hl2⟩ := hz3 (by omega)
    exact ⟨by omega, fun j hj => by have := hl2 j hj; omega⟩)
  have zl0 : z0 ≤ 1048576 := by omega
  have zn0 := hz
  clear hz1 hz2 hz3 hz
  have c1 := (HX1.out.keep HB1.out).cell
  go_upto_region 6 with (go_at_call 11; refine (szGraph_any _ p z0 (by omega) (by omega) _ (HA1.out.below HB1.out)).mono ?_; rintro e w2s ⟨⟨z1, rfl, hz1, hz2, hz3⟩, hb⟩)
  have HB2 : Hid (Below W0.heap.size W0 w2s) := Lib.hid (HB1.out.trans (hb.mono HB1.out.size))
  clear hb c1
  by_cases hz : z1 < 0
  · clear hz3
    go_wp2
    go_ret
    exact ⟨rfl, HBA.out.trans (HB2.out.mono HBA.out.size)⟩
  have L1 : Hid (SzG p) := Lib.hid (by
    obtain ⟨hl1, hl2⟩ := hz3 (by omega)
    exact ⟨by omega, fun j hj => by have := hl2 j hj; omega⟩)
  have zl1 : z1 ≤ 1048576 := by omega
  have zn1 := hz
  clear hz1 hz2 hz3 hz
  have c2 := (HX2.out.keep HB2.out).cell
  go_upto_region 9 with (go_at_call 24; refine (szModel_any _ M z1 (by omega) (by omega) _ (HA2.out.below HB2.out)).mono ?_; rintro e w3s ⟨⟨z2, rfl, hz1, hz2, hz3⟩, hb⟩)
  have HB3 : Hid (Below W0.heap.size W0 w3s) := Lib.hid (HB2.out.trans (hb.mono HB2.out.size))
  clear hb c2
  by_cases hz : z2 < 0
  · clear hz3
    go_wp2
    go_ret
    exact ⟨rfl, HBA.out.trans (HB3.out.mono HBA.out.size)⟩
  have L2 : Hid (SzG M) := Lib.hid (by
    obtain ⟨hl1, hl2⟩ := hz3 (by omega)
    exact ⟨by omega, fun j hj => by have := hl2 j hj; omega⟩)
  have zl2 : z2 ≤ 1048576 := by omega
  have zn2 := hz
  clear hz1 hz2 hz3 hz
  have c3 := (HX3.out.keep HB3.out).cell
  go_upto_region 12 with (go_at_call 11; refine (szGraph_any _ q z2 (by omega) (by omega) _ (HA3.out.below HB3.out)).mono ?_; rintro e w4s ⟨⟨z3, rfl, hz1, hz2, hz3⟩, hb⟩)
  have HB4 : Hid (Below W0.heap.size W0 w4s) := Lib.hid (HB3.out.trans (hb.mono HB3.out.size))
  clear hb c3
  by_cases hz : z3 < 0
  · clear hz3
    go_wp2
    go_ret
    exact ⟨rfl, HBA.out.trans (HB4.out.mono HBA.out.size)⟩
  have L3 : Hid (SzG q) := Lib.hid (by
    obtain ⟨hl1, hl2⟩ := hz3 (by omega)
    exact ⟨by omega, fun j hj => by have := hl2 j hj; omega⟩)
  have zl3 : z3 ≤ 1048576 := by omega
  have zn3 := hz
  clear hz1 hz2 hz3 hz
  have c4 := (HX4.out.keep HB4.out).cell
  go_upto_region 15 with (go_at_call 24; refine (szModel_any _ U z3 (by omega) (by omega) _ (HA4.out.below HB4.out)).mono ?_; rintro e w5s ⟨⟨z4, rfl, hz1, hz2, hz3⟩, hb⟩)
  have HB5 : Hid (Below W0.heap.size W0 w5s) := Lib.hid (HB4.out.trans (hb.mono HB4.out.size))
  clear hb c4
  by_cases hz : z4 < 0
  · clear hz3
    go_wp2
    go_ret
    exact ⟨rfl, HBA.out.trans (HB5.out.mono HBA.out.size)⟩
  have L4 : Hid (SzG U) := Lib.hid (by
    obtain ⟨hl1, hl2⟩ := hz3 (by omega)
    exact ⟨by omega, fun j hj => by have := hl2 j hj; omega⟩)
  have zl4 : z4 ≤ 1048576 := by omega
  have zn4 := hz
  clear hz1 hz2 hz3 hz
  have CEL : Hid (∀ w' : World, Below w5s.heap.size w5s w' → w'.cell? ⟨w.heap.size, 0, none⟩ = some (.slice a0p g.length a0c) ∧ w'.cell? ⟨w.heap.size + 1, 0, none⟩ = some (.slice a1p p.length a1c) ∧ w'.cell? ⟨w.heap.size + 2, 0, none⟩ = some (.slice a2p M.length a2c) ∧ w'.cell? ⟨w.heap.size + 3, 0, none⟩ = some (.slice a3p q.length a3c) ∧ w'.cell? ⟨w.heap.size + 4, 0, none⟩ = some (.slice a4p U.length a4c)) := Lib.hid (fun w' hb => ⟨((HX0.out.keep HB5.out).keep hb).cell, ((HX1.out.keep HB5.out).keep hb).cell, ((HX2.out.keep HB5.out).keep hb).cell, ((HX3.out.keep HB5.out).keep hb).cell, ((HX4.out.keep HB5.out).keep hb).cell⟩)
  have ST0 : Hid (StM w5s w5s []) := Lib.hid ⟨Below.refl _ _, fun y hy => by simp at hy⟩
  have HZ0 : Hid (∀ w' : World, Below w5s.heap.size w5s w' → ArgG w' (.agg #[.slice a0p g.length a0c]) g) := Lib.hid (fun w' hb => (HA0.out.below HB5.out).below hb)
  have HZ1 : Hid (∀ w' : World, Below w5s.heap.size w5s w' → ArgG w' (.agg #[.slice a1p p.length a1c]) p) := Lib.hid (fun w' hb => (HA1.out.below HB5.out).below hb)
  have HZ2 : Hid (∀ w' : World, Below w5s.heap.size w5s w' → ArgG w' (.agg #[.slice a2p M.length a2c]) M) := Lib.hid (fun w' hb => (HA2.out.below HB5.out).below hb)
  have HZ3 : Hid (∀ w' : World, Below w5s.heap.size w5s w' → ArgG w' (.agg #[.slice a3p q.length a3c]) q) := Lib.hid (fun w' hb => (HA3.out.below HB5.out).below hb)
  have HZ4 : Hid (∀ w' : World, Below w5s.heap.size w5s w' → ArgG w' (.agg #[.slice a4p U.length a4c]) U) := Lib.hid (fun w' hb => (HA4.out.below HB5.out).below hb)
  go_upto_region 17 with fail
  have Q0 := CEL.out _ (Below.refl _ _)
  go_cut [12, 13] (fun s12 s13 wx => ∃ (b : Nat) (yp : Option Addr) (yc : Nat) (R : List (List Int)) (ok : Bool), s12 = .pointer (some ⟨b, 0, none⟩) ∧ s13 = .bool ok ∧ Hid (CmS g p M q U R ok ∧ R.length ≤ 16 ∧ (∀ j, (row R j).length ≤ 16)) ∧ Below w5s.heap.size w5s wx ∧ Box wx b 41 (.slice yp R.length yc) ∧ SG wx w5s.heap.size (.agg #[.slice yp R.length yc]) R ∧ w5s.heap.size ≤ b)
  case first =>
    as_aux_lemma =>
      go_region_held3 (fun w' => w'.cell? ⟨w.heap.size, 0, none⟩ = some (.slice a0p g.length a0c) ∧ w'.cell? ⟨w.heap.size + 1, 0, none⟩ = some (.slice a1p p.length a1c) ∧ w'.cell? ⟨w.heap.size + 2, 0, none⟩ = some (.slice a2p M.length a2c) ∧ w'.cell? ⟨w.heap.size + 3, 0, none⟩ = some (.slice a3p q.length a3c) ∧ w'.cell? ⟨w.heap.size + 4, 0, none⟩ = some (.slice a4p U.length a4c))
        (first | exact Q0 | exact CEL.out _ hs6.bel | exact CEL.out _ hs5.bel | exact CEL.out _ hs4.bel | exact CEL.out _ hs3.bel | exact CEL.out _ hs2.bel | exact CEL.out _ hs1.bel | exact CEL.out _ (hs6.next (below_alloc _ _)).bel | exact CEL.out _ (hs5.next (below_alloc _ _)).bel | exact CEL.out _ (hs4.next (below_alloc _ _)).bel | exact CEL.out _ (hs3.next (below_alloc _ _)).bel | exact CEL.out _ (hs2.next (below_alloc _ _)).bel | exact CEL.out _ (hs1.next (below_alloc _ _)).bel | exact CEL.out _ (StM.bel (hs6.next (below_alloc _ _)) |>.setCell (by first | exact Nat.le_refl _ | exact hs1.bel.size | exact hs2.bel.size | exact hs3.bel.size | exact hs4.bel.size | exact hs5.bel.size | exact hs6.bel.size) _) | exact CEL.out _ (hs6.bel.setCell (by first | exact Nat.le_refl _ | exact hs1.bel.size | exact hs2.bel.size | exact hs3.bel.size | exact hs4.bel.size | exact hs5.bel.size | exact hs6.bel.size) _) | go_keep)
        (first | (go_at_call 25; refine (specComposedModel_any _ _ _ _ _ g p M q U (by have := L0.out.1; omega) (by have := L1.out.1; omega) _ (OwnG.gr' (base := w5s.heap.size) (StM.own (W2 := w5s) (ys := [(y4, U), (y3, q), (y2, M), (y1, p), (y0, g)]) (by first | exact hs5 | exact hs5.next (below_dN (Below.refl _ _) _) | exact hs5.next (below_alloc _ _) | exact (hs5.next (below_dN (Below.refl _ _) _)).next (below_alloc _ _) | exact (hs5.next (below_alloc _ _)).next (below_dN (Below.refl _ _) _)) (y0, g) (by simp)) L0.out) (OwnG.gr' (base := w5s.heap.size) (StM.own (W2 := w5s) (ys := [(y4, U), (y3, q), (y2, M), (y1, p), (y0, g)]) (by first | exact hs5 | exact hs5.next (below_dN (Below.refl _ _) _) | exact hs5.next (below_alloc _ _) | exact (hs5.next (below_dN (Below.refl _ _) _)).next (below_alloc _ _) | exact (hs5.next (below_alloc _ _)).next (below_dN (Below.refl _ _) _)) (y1, p) (by simp)) L1.out) (OwnG.gr' (base := w5s.heap.size) (StM.own (W2 := w5s) (ys := [(y4, U), (y3, q), (y2, M), (y1, p), (y0, g)]) (by first | exact hs5 | exact hs5.next (below_dN (Below.refl _ _) _) | exact hs5.next (below_alloc _ _) | exact (hs5.next (below_dN (Below.refl _ _) _)).next (below_alloc _ _) | exact (hs5.next (below_alloc _ _)).next (below_dN (Below.refl _ _) _)) (y2, M) (by simp)) L2.out) (OwnG.gr' (base := w5s.heap.size) (StM.own (W2 := w5s) (ys := [(y4, U), (y3, q), (y2, M), (y1, p), (y0, g)]) (by first | exact hs5 | exact hs5.next (below_dN (Below.refl _ _) _) | exact hs5.next (below_alloc _ _) | exact (hs5.next (below_dN (Below.refl _ _) _)).next (below_alloc _ _) | exact (hs5.next (below_alloc _ _)).next (below_dN (Below.refl _ _) _)) (y3, q) (by simp)) L3.out) (OwnG.gr' (base := w5s.heap.size) (StM.own (W2 := w5s) (ys := [(y4, U), (y3, q), (y2, M), (y1, p), (y0, g)]) (by first | exact hs5 | exact hs5.next (below_dN (Below.refl _ _) _) | exact hs5.next (below_alloc _ _) | exact (hs5.next (below_dN (Below.refl _ _) _)).next (below_alloc _ _) | exact (hs5.next (below_alloc _ _)).next (below_dN (Below.refl _ _) _)) (y4, U) (by simp)) L4.out)).mono ?_; rintro e wy5 ⟨uv, R, ok, rfl, hS, hsg, hR16, hRr, hb5⟩; obtain ⟨yp, yc, rfl⟩ := hsg.shape; have hs6 : StM w5s wy5 [(y4, U), (y3, q), (y2, M), (y1, p), (y0, g)] := StM.next (by first | exact hs5 | exact hs5.next (below_dN (Below.refl _ _) _) | exact hs5.next (below_alloc _ _) | exact (hs5.next (below_dN (Below.refl _ _) _)).next (below_alloc _ _) | exact (hs5.next (below_alloc _ _)).next (below_dN (Below.refl _ _) _)) hb5; have HSR := Lib.hid (And.intro hS (And.intro hR16 hRr)); have HSG : Hid (SG wy5 w5s.heap.size (.agg #[.slice yp R.length yc]) R) := Lib.hid (hsg.baseM (StM.bel (W2 := w5s) (ys := [(y4, U), (y3, q), (y2, M), (y1, p), (y0, g)]) (by first | exact hs5 | exact hs5.next (below_dN (Below.refl _ _) _) | exact hs5.next (below_alloc _ _) | exact (hs5.next (below_dN (Below.refl _ _) _)).next (below_alloc _ _) | exact (hs5.next (below_alloc _ _)).next (below_dN (Below.refl _ _) _))).size); clear hS hsg hR16 hRr; (first | (have bx := bx.keep hb5; have bc := bx.cell; have bf := bx.free) | (have bx := Box.keep (Box.new _ (.slice none 0 0) 41) hb5; have bc := bx.cell; have bf := bx.free) | (have bx := Box.keep (Box.keep (Box.new _ (.slice none 0 0) 41) (below_dN (Below.refl _ _) _)) hb5; have bc := bx.cell; have bf := bx.free) | skip)) | (go_at_call 26; refine (toModel_any _ U L4.out.1 L4.out.2 _ (HZ4.out _ (StM.bel (W2 := w5s) (ys := [(y3, q), (y2, M), (y1, p), (y0, g)]) (by first | exact hs4 | exact hs4.next (below_dN (Below.refl _ _) _) | exact hs4.next (below_alloc _ _) | exact (hs4.next (below_dN (Below.refl _ _) _)).next (below_alloc _ _) | exact (hs4.next (below_alloc _ _)).next (below_dN (Below.refl _ _) _))))).mono ?_; rintro e wy4 ⟨y4, rfl, ho, hb4⟩; have hs5 : StM w5s wy4 ((y4, U) :: [(y3, q), (y2, M), (y1, p), (y0, g)]) := StM.add (by first | exact hs4 | exact hs4.next (below_dN (Below.refl _ _) _) | exact hs4.next (below_alloc _ _) | exact (hs4.next (below_dN (Below.refl _ _) _)).next (below_alloc _ _) | exact (hs4.next (below_alloc _ _)).next (below_dN (Below.refl _ _) _)) hb4 ho; clear ho; (first | (have bx := bx.keep hb4; have bc := bx.cell; have bf := bx.free) | (have bx := Box.keep (Box.new _ (.slice none 0 0) 41) hb4; have bc := bx.cell; have bf := bx.free) | (have bx := Box.keep (Box.keep (Box.new _ (.slice none 0 0) 41) (below_dN (Below.refl _ _) _)) hb4; have bc := bx.cell; have bf := bx.free) | skip)) | (go_at_call 14; refine (toGraph_any _ q L3.out.1 L3.out.2 _ (HZ3.out _ (StM.bel (W2 := w5s) (ys := [(y2, M), (y1, p), (y0, g)]) (by first | exact hs3 | exact hs3.next (below_dN (Below.refl _ _) _) | exact hs3.next (below_alloc _ _) | exact (hs3.next (below_dN (Below.refl _ _) _)).next (below_alloc _ _) | exact (hs3.next (below_alloc _ _)).next (below_dN (Below.refl _ _) _))))).mono ?_; rintro e wy3 ⟨y3, rfl, ho, hb3⟩; have hs4 : StM w5s wy3 ((y3, q) :: [(y2, M), (y1, p), (y0, g)]) := StM.add (by first | exact hs3 | exact hs3.next (below_dN (Below.refl _ _) _) | exact hs3.next (below_alloc _ _) | exact (hs3.next (below_dN (Below.refl _ _) _)).next (below_alloc _ _) | exact (hs3.next (below_alloc _ _)).next (below_dN (Below.refl _ _) _)) hb3 ho; clear ho; (first | (have bx := bx.keep hb3; have bc := bx.cell; have bf := bx.free) | (have bx := Box.keep (Box.new _ (.slice none 0 0) 41) hb3; have bc := bx.cell; have bf := bx.free) | (have bx := Box.keep (Box.keep (Box.new _ (.slice none 0 0) 41) (below_dN (Below.refl _ _) _)) hb3; have bc := bx.cell; have bf := bx.free) | skip)) | (go_at_call 26; refine (toModel_any _ M L2.out.1 L2.out.2 _ (HZ2.out _ (StM.bel (W2 := w5s) (ys := [(y1, p), (y0, g)]) (by first | exact hs2 | exact hs2.next (below_dN (Below.refl _ _) _) | exact hs2.next (below_alloc _ _) | exact (hs2.next (below_dN (Below.refl _ _) _)).next (below_alloc _ _) | exact (hs2.next (below_alloc _ _)).next (below_dN (Below.refl _ _) _))))).mono ?_; rintro e wy2 ⟨y2, rfl, ho, hb2⟩; have hs3 : StM w5s wy2 ((y2, M) :: [(y1, p), (y0, g)]) := StM.add (by first | exact hs2 | exact hs2.next (below_dN (Below.refl _ _) _) | exact hs2.next (below_alloc _ _) | exact (hs2.next (below_dN (Below.refl _ _) _)).next (below_alloc _ _) | exact (hs2.next (below_alloc _ _)).next (below_dN (Below.refl _ _) _)) hb2 ho; clear ho; (first | (have bx := bx.keep hb2; have bc := bx.cell; have bf := bx.free) | (have bx := Box.keep (Box.new _ (.slice none 0 0) 41) hb2; have bc := bx.cell; have bf := bx.free) | (have bx := Box.keep (Box.keep (Box.new _ (.slice none 0 0) 41) (below_dN (Below.refl _ _) _)) hb2; have bc := bx.cell; have bf := bx.free) | skip)) | (go_at_call 14; refine (toGraph_any _ p L1.out.1 L1.out.2 _ (HZ1.out _ (StM.bel (W2 := w5s) (ys := [(y0, g)]) (by first | exact hs1 | exact hs1.next (below_dN (Below.refl _ _) _) | exact hs1.next (below_alloc _ _) | exact (hs1.next (below_dN (Below.refl _ _) _)).next (below_alloc _ _) | exact (hs1.next (below_alloc _ _)).next (below_dN (Below.refl _ _) _))))).mono ?_; rintro e wy1 ⟨y1, rfl, ho, hb1⟩; have hs2 : StM w5s wy1 ((y1, p) :: [(y0, g)]) := StM.add (by first | exact hs1 | exact hs1.next (below_dN (Below.refl _ _) _) | exact hs1.next (below_alloc _ _) | exact (hs1.next (below_dN (Below.refl _ _) _)).next (below_alloc _ _) | exact (hs1.next (below_alloc _ _)).next (below_dN (Below.refl _ _) _)) hb1 ho; clear ho; (first | (have bx := bx.keep hb1; have bc := bx.cell; have bf := bx.free) | (have bx := Box.keep (Box.new _ (.slice none 0 0) 41) hb1; have bc := bx.cell; have bf := bx.free) | (have bx := Box.keep (Box.keep (Box.new _ (.slice none 0 0) 41) (below_dN (Below.refl _ _) _)) hb1; have bc := bx.cell; have bf := bx.free) | skip)) | (go_at_call 14; refine (toGraph_any _ g L0.out.1 L0.out.2 _ (HZ0.out _ (StM.bel (W2 := w5s) (ys := []) (by first | exact ST0.out | exact ST0.out.next (below_dN (Below.refl _ _) _) | exact ST0.out.next (below_alloc _ _) | exact (ST0.out.next (below_dN (Below.refl _ _) _)).next (below_alloc _ _) | exact (ST0.out.next (below_alloc _ _)).next (below_dN (Below.refl _ _) _))))).mono ?_; rintro e wy0 ⟨y0, rfl, ho, hb0⟩; have hs1 : StM w5s wy0 ((y0, g) :: []) := StM.add (by first | exact ST0.out | exact ST0.out.next (below_dN (Below.refl _ _) _) | exact ST0.out.next (below_alloc _ _) | exact (ST0.out.next (below_dN (Below.refl _ _) _)).next (below_alloc _ _) | exact (ST0.out.next (below_alloc _ _)).next (below_dN (Below.refl _ _) _)) hb0 ho; clear ho; (first | (have bx := bx.keep hb0; have bc := bx.cell; have bf := bx.free) | (have bx := Box.keep (Box.new _ (.slice none 0 0) 41) hb0; have bc := bx.cell; have bf := bx.free) | (have bx := Box.keep (Box.keep (Box.new _ (.slice none 0 0) 41) (below_dN (Below.refl _ _) _)) hb0; have bc := bx.cell; have bf := bx.free) | skip)))
      all_goals go_wp2
      all_goals go_meet
      all_goals first
        | exact ⟨_, yp, yc, R, ok, rfl, rfl, HSR, hs6.bel.setCell (by first | exact Nat.le_refl _ | exact hs1.bel.size | exact hs2.bel.size | exact hs3.bel.size | exact hs4.bel.size | exact hs5.bel.size | exact hs6.bel.size) _, bx.set _, HSG.out.setM bx _, (by first | exact Nat.le_refl _ | exact hs1.bel.size | exact hs2.bel.size | exact hs3.bel.size | exact hs4.bel.size | exact hs5.bel.size | exact hs6.bel.size)⟩
        | exact ⟨_, yp, yc, R, ok, rfl, rfl, HSR, (hs6.next (below_alloc _ _)).bel, Box.new _ _ _, HSG.out.below (below_alloc _ _), hs6.bel.size⟩
  case rest =>
  obtain ⟨yb, yp, yc, R, ok, rfl, rfl, HS4, hbc, hby, hsy, hlo⟩ := hcut
  have HBC := Lib.hid hbc
  have YB := Lib.hid hby
  have YS := Lib.hid hsy
  have YB0 := Lib.hid hby
  have YS0 := Lib.hid hsy
  have YLO := Lib.hid hlo
  have hVl_ : w5s.heap.size ≤ wc.heap.size := hbc.size
  clear hbc hby hsy hlo Q0
  have YV_ : Hid (Below wc.heap.size wc wc) := Lib.hid (Below.refl _ _)
  have hcel := (CEL.out _ (HBC.out.trans (YV_.out.mono HBC.out.size)))
  go_upto_region 19 with (go_at_call 14; refine (toGraph_any _ g L0.out.1 L0.out.2 _ (HZ0.out _ (HBC.out.trans (YV_.out.mono HBC.out.size)))).mono ?_; rintro e wx0 ⟨x0, rfl, ho, hb⟩; obtain ⟨x0p, x0c, rfl⟩ := ho.shape)
  obtain ⟨V0, hV⟩ : ∃ V, V = wx0.alloc (.cells #[.slice x0p g.length x0c] 29) := ⟨_, rfl⟩
  rw [← hV]
  have hv : Below wc.heap.size wc V0 := by rw [hV]; exact hb.alloc hb.size _
  have IN0 : Hid (InG V0 wc.heap.size wx0.heap.size (.agg #[.slice x0p g.length x0c]) g) := Lib.hid ((InG.of_own ho).below (by rw [hV]; exact below_alloc _ _))
  have BI0 : Hid (Box V0 wx0.heap.size 29 (.slice x0p g.length x0c)) := Lib.hid (by rw [hV]; exact Box.new _ _ _)
  have sV0 : V0.heap.size = wx0.heap.size + 1 := by rw [hV, size_alloc]
  have sx0 := hb.size
  replace YV_ := Lib.hid (YV_.out.trans (hv.mono YV_.out.size))
  clear hb ho hV hv hcel
  have hcel := (CEL.out _ (HBC.out.trans (YV_.out.mono HBC.out.size)))
  go_upto_region 20 with (go_at_call 14; refine (toGraph_any _ p L1.out.1 L1.out.2 _ (HZ1.out _ (HBC.out.trans (YV_.out.mono HBC.out.size)))).mono ?_; rintro e wx1 ⟨x1, rfl, ho, hb⟩; obtain ⟨x1p, x1c, rfl⟩ := ho.shape)
  obtain ⟨V1, hV⟩ : ∃ V, V = wx1.alloc (.cells #[.slice x1p p.length x1c] 29) := ⟨_, rfl⟩
  rw [← hV]
  have hv : Below V0.heap.size V0 V1 := by rw [hV]; exact hb.alloc hb.size _
  have IN1 : Hid (InG V1 V0.heap.size wx1.heap.size (.agg #[.slice x1p p.length x1c]) p) := Lib.hid ((InG.of_own ho).below (by rw [hV]; exact below_alloc _ _))
  have BI1 : Hid (Box V1 wx1.heap.size 29 (.slice x1p p.length x1c)) := Lib.hid (by rw [hV]; exact Box.new _ _ _)
  have sV1 : V1.heap.size = wx1.heap.size + 1 := by rw [hV, size_alloc]
  have sx1 := hb.size
  replace IN0 := Lib.hid (IN0.out.below hv)
  replace BI0 := Lib.hid (BI0.out.keep hv)
  replace YV_ := Lib.hid (YV_.out.trans (hv.mono YV_.out.size))
  clear hb ho hV hv hcel
  have hcel := (CEL.out _ (HBC.out.trans (YV_.out.mono HBC.out.size)))
  go_upto_region 21 with (go_at_call 26; refine (toModel_any _ M L2.out.1 L2.out.2 _ (HZ2.out _ (HBC.out.trans (YV_.out.mono HBC.out.size)))).mono ?_; rintro e wx2 ⟨x2, rfl, ho, hb⟩; obtain ⟨x2p, x2c, rfl⟩ := ho.shape)
  obtain ⟨V2, hV⟩ : ∃ V, V = wx2.alloc (.cells #[.slice x2p M.length x2c] 41) := ⟨_, rfl⟩
  rw [← hV]
  have hv : Below V1.heap.size V1 V2 := by rw [hV]; exact hb.alloc hb.size _
  have IN2 : Hid (InG V2 V1.heap.size wx2.heap.size (.agg #[.slice x2p M.length x2c]) M) := Lib.hid ((InG.of_own ho).below (by rw [hV]; exact below_alloc _ _))
  have BI2 : Hid (Box V2 wx2.heap.size 41 (.slice x2p M.length x2c)) := Lib.hid (by rw [hV]; exact Box.new _ _ _)
  have sV2 : V2.heap.size = wx2.heap.size + 1 := by rw [hV, size_alloc]
  have sx2 := hb.size
  replace IN0 := Lib.hid (IN0.out.below hv)
  replace BI0 := Lib.hid (BI0.out.keep hv)
  replace IN1 := Lib.hid (IN1.out.below hv)
  replace BI1 := Lib.hid (BI1.out.keep hv)
  replace YV_ := Lib.hid (YV_.out.trans (hv.mono YV_.out.size))
  clear hb ho hV hv hcel
  have hcel := (CEL.out _ (HBC.out.trans (YV_.out.mono HBC.out.size)))
  go_upto_region 22 with (go_at_call 14; refine (toGraph_any _ q L3.out.1 L3.out.2 _ (HZ3.out _ (HBC.out.trans (YV_.out.mono HBC.out.size)))).mono ?_; rintro e wx3 ⟨x3, rfl, ho, hb⟩; obtain ⟨x3p, x3c, rfl⟩ := ho.shape)
  obtain ⟨V3, hV⟩ : ∃ V, V = wx3.alloc (.cells #[.slice x3p q.length x3c] 29) := ⟨_, rfl⟩
  rw [← hV]
  have hv : Below V2.heap.size V2 V3 := by rw [hV]; exact hb.alloc hb.size _
  have IN3 : Hid (InG V3 V2.heap.size wx3.heap.size (.agg #[.slice x3p q.length x3c]) q) := Lib.hid ((InG.of_own ho).below (by rw [hV]; exact below_alloc _ _))
  have BI3 : Hid (Box V3 wx3.heap.size 29 (.slice x3p q.length x3c)) := Lib.hid (by rw [hV]; exact Box.new _ _ _)
  have sV3 : V3.heap.size = wx3.heap.size + 1 := by rw [hV, size_alloc]
  have sx3 := hb.size
  replace IN0 := Lib.hid (IN0.out.below hv)
  replace BI0 := Lib.hid (BI0.out.keep hv)
  replace IN1 := Lib.hid (IN1.out.below hv)
  replace BI1 := Lib.hid (BI1.out.keep hv)
  replace IN2 := Lib.hid (IN2.out.below hv)
  replace BI2 := Lib.hid (BI2.out.keep hv)
  replace YV_ := Lib.hid (YV_.out.trans (hv.mono YV_.out.size))
  clear hb ho hV hv hcel
  have hcel := (CEL.out _ (HBC.out.trans (YV_.out.mono HBC.out.size)))
  go_upto_region 23 with (go_at_call 26; refine (toModel_any _ U L4.out.1 L4.out.2 _ (HZ4.out _ (HBC.out.trans (YV_.out.mono HBC.out.size)))).mono ?_; rintro e wx4 ⟨x4, rfl, ho, hb⟩; obtain ⟨x4p, x4c, rfl⟩ := ho.shape)
  obtain ⟨V4, hV⟩ : ∃ V, V = wx4.alloc (.cells #[.slice x4p U.length x4c] 41) := ⟨_, rfl⟩
  rw [← hV]
  have hv : Below V3.heap.size V3 V4 := by rw [hV]; exact hb.alloc hb.size _
  have IN4 : Hid (InG V4 V3.heap.size wx4.heap.size (.agg #[.slice x4p U.length x4c]) U) := Lib.hid ((InG.of_own ho).below (by rw [hV]; exact below_alloc _ _))
  have BI4 : Hid (Box V4 wx4.heap.size 41 (.slice x4p U.length x4c)) := Lib.hid (by rw [hV]; exact Box.new _ _ _)
  have sV4 : V4.heap.size = wx4.heap.size + 1 := by rw [hV, size_alloc]
  have sx4 := hb.size
  replace IN0 := Lib.hid (IN0.out.below hv)
  replace BI0 := Lib.hid (BI0.out.keep hv)
  replace IN1 := Lib.hid (IN1.out.below hv)
  replace BI1 := Lib.hid (BI1.out.keep hv)
  replace IN2 := Lib.hid (IN2.out.below hv)
  replace BI2 := Lib.hid (BI2.out.keep hv)
  replace IN3 := Lib.hid (IN3.out.below hv)
  replace BI3 := Lib.hid (BI3.out.keep hv)
  replace YV_ := Lib.hid (YV_.out.trans (hv.mono YV_.out.size))
  clear hb ho hV hv hcel
  have HTV := Lib.hid (HT.out.keep (HB5.out.trans ((HBC.out.trans (YV_.out.mono HBC.out.size)).mono HB5.out.size)))
  have k0 := BI0.out.cell
  have k1 := BI1.out.cell
  have k2 := BI2.out.cell
  have k3 := BI3.out.cell
  have k4 := BI4.out.cell
  go_upto_region 24 with (go_at_call 27; refine (implComposedModel_any _ _ _ _ _ g p M q U (by have := L0.out.1; omega) (by have := L1.out.1; omega) _ (IN0.out.own.gr' L0.out) (IN1.out.own.gr' L1.out) (IN2.out.own.gr' L2.out) (IN3.out.own.gr' L3.out) (IN4.out.own.gr' L4.out) HTV.out).mono ?_; rintro e wz ⟨zu, R2, ok2, rfl, hS, hd, hR16, hRr, hb⟩; obtain ⟨zp, zc, rfl⟩ := hd.shape)
  obtain ⟨e1, e2⟩ := cmS_det hS HS4.out.1
  subst e1
  subst e2
  clear k0 k1 k2 k3 k4
  obtain ⟨VZ, hV⟩ : ∃ V, V = wz.alloc (.cells #[.slice zp R2.length zc] 41) := ⟨_, rfl⟩
  rw [← hV]
  have hv : Below V4.heap.size V4 VZ := by rw [hV]; exact hb.alloc hb.size _
  have DZ : Hid (DGh VZ V4.heap.size wz.heap.size (.agg #[.slice zp R2.length zc]) R2) := Lib.hid ((DGh.of hd).below (by rw [hV]; exact below_alloc _ _))
  have BZ : Hid (Box VZ wz.heap.size 41 (.slice zp R2.length zc)) := Lib.hid (by rw [hV]; exact Box.new _ _ _)
  have sVZ : VZ.heap.size = wz.heap.size + 1 := by rw [hV, size_alloc]
  have sz := hb.size
  have HRr := Lib.hid hRr
  replace IN0 := Lib.hid (IN0.out.below hv)
  replace BI0 := Lib.hid (BI0.out.keep hv)
  replace IN1 := Lib.hid (IN1.out.below hv)
  replace BI1 := Lib.hid (BI1.out.keep hv)
  replace IN2 := Lib.hid (IN2.out.below hv)
  replace BI2 := Lib.hid (BI2.out.keep hv)
  replace IN3 := Lib.hid (IN3.out.below hv)
  replace BI3 := Lib.hid (BI3.out.keep hv)
  replace IN4 := Lib.hid (IN4.out.below hv)
  replace BI4 := Lib.hid (BI4.out.keep hv)
  replace YV_ := Lib.hid (YV_.out.trans (hv.mono YV_.out.size))
  replace YS := Lib.hid (YS.out.below YV_.out)
  replace YB := Lib.hid (YB.out.keep YV_.out)
  clear hb hd hV hv hRr hS
  have ky := YB.out.cell
  have kz := BZ.out.cell
  have hbb : (ok2 != ok2) = false := by simp
  go_upto_region 26 with (go_at_call 28; refine (eqModel_b _ _ R2 _ (DZ.out.dg.gr (by omega) (fun j hj => by have := HRr.out j; omega)) (YS.out.gr (by omega))).mono ?_; rintro e wa ⟨rfl, hb⟩)
  replace IN0 := Lib.hid (IN0.out.below hb)
  replace BI0 := Lib.hid (BI0.out.keep hb)
  replace IN1 := Lib.hid (IN1.out.below hb)
  replace BI1 := Lib.hid (BI1.out.keep hb)
  replace IN2 := Lib.hid (IN2.out.below hb)
  replace BI2 := Lib.hid (BI2.out.keep hb)
  replace IN3 := Lib.hid (IN3.out.below hb)
  replace BI3 := Lib.hid (BI3.out.keep hb)
  replace IN4 := Lib.hid (IN4.out.below hb)
  replace BI4 := Lib.hid (BI4.out.keep hb)
  replace DZ := Lib.hid (DZ.out.below hb)
  replace BZ := Lib.hid (BZ.out.keep hb)
  replace YS := Lib.hid (YS.out.below hb)
  replace YB := Lib.hid (YB.out.keep hb)
  replace YV_ := Lib.hid (YV_.out.trans (hb.mono YV_.out.size))
  clear hb ky kz
  have q6 := BI0.out.cell
  have q1 := (HX0.out.keep (HB5.out.trans ((HBC.out.trans (YV_.out.mono HBC.out.size)).mono HB5.out.size))).cell
  have HZC := Lib.hid (HZ0.out _ (HBC.out.trans (YV_.out.mono HBC.out.size)))
  go_upto_region 26 with fail
  go_cut [97] (fun s wx => s = .bool false ∧ Below wa.heap.size wa wx)
  case first =>
    as_aux_lemma =>
      go_region_held3 (fun W => W.cell? ⟨wx0.heap.size, 0, none⟩ = some (.slice x0p g.length x0c) ∧ W.cell? ⟨w.heap.size, 0, none⟩ = some (.slice a0p g.length a0c))
        (first | go_keep | exact ⟨hb8'.at' q6, hb8'.at' q1⟩ | exact ⟨hb9'.at' q6, hb9'.at' q1⟩)
        (first | (go_at_call 14; refine (toGraph_any _ g L0.out.1 L0.out.2 _ (HZC.out.below (below_dN (Below.refl _ _) 1))).mono ?_; rintro e w9 ⟨x', rfl, ho8, hb9⟩; obtain ⟨xp', xc', rfl⟩ := ho8.shape; have hb8' : Below wa.heap.size wa w9 := (below_dN (Below.refl _ _) 1).trans hb9) | (go_at_call 18; refine (eqGraph_b _ _ g _ ((IN0.out.below hb8').own.gr' L0.out) (ho8.gr' L0.out)).mono ?_; rintro e w10 ⟨rfl, hb10⟩; have hb9' : Below wa.heap.size wa w10 := hb8'.trans (hb10.mono hb8'.size)))
      all_goals go_wp2
      all_goals go_meet
      all_goals exact ⟨rfl, hb9'⟩
  case rest =>
  obtain ⟨rfl, hbc⟩ := hcut
  replace IN0 := Lib.hid (IN0.out.below hbc)
  replace BI0 := Lib.hid (BI0.out.keep hbc)
  replace IN1 := Lib.hid (IN1.out.below hbc)
  replace BI1 := Lib.hid (BI1.out.keep hbc)
  replace IN2 := Lib.hid (IN2.out.below hbc)
  replace BI2 := Lib.hid (BI2.out.keep hbc)
  replace IN3 := Lib.hid (IN3.out.below hbc)
  replace BI3 := Lib.hid (BI3.out.keep hbc)
  replace IN4 := Lib.hid (IN4.out.below hbc)
  replace BI4 := Lib.hid (BI4.out.keep hbc)
  replace DZ := Lib.hid (DZ.out.below hbc)
  replace BZ := Lib.hid (BZ.out.keep hbc)
  replace YS := Lib.hid (YS.out.below hbc)
  replace YB := Lib.hid (YB.out.keep hbc)
  replace YV_ := Lib.hid (YV_.out.trans (hbc.mono YV_.out.size))
  clear hbc q6 q1 HZC
  have q6 := BI1.out.cell
  have q1 := (HX1.out.keep (HB5.out.trans ((HBC.out.trans (YV_.out.mono HBC.out.size)).mono HB5.out.size))).cell
  have HZC := Lib.hid (HZ1.out _ (HBC.out.trans (YV_.out.mono HBC.out.size)))
  go_upto_region 28 with fail
  go_cut [102] (fun s wx => s = .bool false ∧ Below wc.heap.size wc wx)
  case first =>
    as_aux_lemma =>
      go_region_held3 (fun W => W.cell? ⟨wx1.heap.size, 0, none⟩ = some (.slice x1p p.length x1c) ∧ W.cell? ⟨w.heap.size + 1, 0, none⟩ = some (.slice a1p p.length a1c))
        (first | go_keep | exact ⟨hb8'.at' q6, hb8'.at' q1⟩ | exact ⟨hb9'.at' q6, hb9'.at' q1⟩)
        (first | (go_at_call 14; refine (toGraph_any _ p L1.out.1 L1.out.2 _ (HZC.out.below (below_dN (Below.refl _ _) 1))).mono ?_; rintro e w9 ⟨x', rfl, ho8, hb9⟩; obtain ⟨xp', xc', rfl⟩ := ho8.shape; have hb8' : Below wc.heap.size wc w9 := (below_dN (Below.refl _ _) 1).trans hb9) | (go_at_call 18; refine (eqGraph_b _ _ p _ ((IN1.out.below hb8').own.gr' L1.out) (ho8.gr' L1.out)).mono ?_; rintro e w10 ⟨rfl, hb10⟩; have hb9' : Below wc.heap.size wc w10 := hb8'.trans (hb10.mono hb8'.size)))
      all_goals go_wp2
      all_goals go_meet
      all_goals exact ⟨rfl, hb9'⟩
  case rest =>
  obtain ⟨rfl, hbc⟩ := hcut
  replace IN0 := Lib.hid (IN0.out.below hbc)
  replace BI0 := Lib.hid (BI0.out.keep hbc)
  replace IN1 := Lib.hid (IN1.out.below hbc)
  replace BI1 := Lib.hid (BI1.out.keep hbc)
  replace IN2 := Lib.hid (IN2.out.below hbc)
  replace BI2 := Lib.hid (BI2.out.keep hbc)
  replace IN3 := Lib.hid (IN3.out.below hbc)
  replace BI3 := Lib.hid (BI3.out.keep hbc)
  replace IN4 := Lib.hid (IN4.out.below hbc)
  replace BI4 := Lib.hid (BI4.out.keep hbc)
  replace DZ := Lib.hid (DZ.out.below hbc)
  replace BZ := Lib.hid (BZ.out.keep hbc)
  replace YS := Lib.hid (YS.out.below hbc)
  replace YB := Lib.hid (YB.out.keep hbc)
  replace YV_ := Lib.hid (YV_.out.trans (hbc.mono YV_.out.size))
  clear hbc q6 q1 HZC
  have q6 := BI2.out.cell
  have q1 := (HX2.out.keep (HB5.out.trans ((HBC.out.trans (YV_.out.mono HBC.out.size)).mono HB5.out.size))).cell
  have HZC := Lib.hid (HZ2.out _ (HBC.out.trans (YV_.out.mono HBC.out.size)))
  go_upto_region 30 with fail
  go_cut [107] (fun s wx => s = .bool false ∧ Below wc.heap.size wc wx)
  case first =>
    as_aux_lemma =>
      go_region_held3 (fun W => W.cell? ⟨wx2.heap.size, 0, none⟩ = some (.slice x2p M.length x2c) ∧ W.cell? ⟨w.heap.size + 2, 0, none⟩ = some (.slice a2p M.length a2c))
        (first | go_keep | exact ⟨hb8'.at' q6, hb8'.at' q1⟩ | exact ⟨hb9'.at' q6, hb9'.at' q1⟩)
        (first | (go_at_call 26; refine (toModel_any _ M L2.out.1 L2.out.2 _ (HZC.out.below (below_dN (Below.refl _ _) 1))).mono ?_; rintro e w9 ⟨x', rfl, ho8, hb9⟩; obtain ⟨xp', xc', rfl⟩ := ho8.shape; have hb8' : Below wc.heap.size wc w9 := (below_dN (Below.refl _ _) 1).trans hb9) | (go_at_call 28; refine (eqModel_b _ _ M _ ((IN2.out.below hb8').own.gr' L2.out) (ho8.gr' L2.out)).mono ?_; rintro e w10 ⟨rfl, hb10⟩; have hb9' : Below wc.heap.size wc w10 := hb8'.trans (hb10.mono hb8'.size)))
      all_goals go_wp2
      all_goals go_meet
      all_goals exact ⟨rfl, hb9'⟩
  case rest =>
  obtain ⟨rfl, hbc⟩ := hcut
  replace IN0 := Lib.hid (IN0.out.below hbc)
  replace BI0 := Lib.hid (BI0.out.keep hbc)
  replace IN1 := Lib.hid (IN1.out.below hbc)
  replace BI1 := Lib.hid (BI1.out.keep hbc)
  replace IN2 := Lib.hid (IN2.out.below hbc)
  replace BI2 := Lib.hid (BI2.out.keep hbc)
  replace IN3 := Lib.hid (IN3.out.below hbc)
  replace BI3 := Lib.hid (BI3.out.keep hbc)
  replace IN4 := Lib.hid (IN4.out.below hbc)
  replace BI4 := Lib.hid (BI4.out.keep hbc)
  replace DZ := Lib.hid (DZ.out.below hbc)
  replace BZ := Lib.hid (BZ.out.keep hbc)
  replace YS := Lib.hid (YS.out.below hbc)
  replace YB := Lib.hid (YB.out.keep hbc)
  replace YV_ := Lib.hid (YV_.out.trans (hbc.mono YV_.out.size))
  clear hbc q6 q1 HZC
  have q6 := BI3.out.cell
  have q1 := (HX3.out.keep (HB5.out.trans ((HBC.out.trans (YV_.out.mono HBC.out.size)).mono HB5.out.size))).cell
  have HZC := Lib.hid (HZ3.out _ (HBC.out.trans (YV_.out.mono HBC.out.size)))
  go_upto_region 32 with fail
  go_cut [112] (fun s wx => s = .bool false ∧ Below wc.heap.size wc wx)
  case first =>
    as_aux_lemma =>
      go_region_held3 (fun W => W.cell? ⟨wx3.heap.size, 0, none⟩ = some (.slice x3p q.length x3c) ∧ W.cell? ⟨w.heap.size + 3, 0, none⟩ = some (.slice a3p q.length a3c))
        (first | go_keep | exact ⟨hb8'.at' q6, hb8'.at' q1⟩ | exact ⟨hb9'.at' q6, hb9'.at' q1⟩)
        (first | (go_at_call 14; refine (toGraph_any _ q L3.out.1 L3.out.2 _ (HZC.out.below (below_dN (Below.refl _ _) 1))).mono ?_; rintro e w9 ⟨x', rfl, ho8, hb9⟩; obtain ⟨xp', xc', rfl⟩ := ho8.shape; have hb8' : Below wc.heap.size wc w9 := (below_dN (Below.refl _ _) 1).trans hb9) | (go_at_call 18; refine (eqGraph_b _ _ q _ ((IN3.out.below hb8').own.gr' L3.out) (ho8.gr' L3.out)).mono ?_; rintro e w10 ⟨rfl, hb10⟩; have hb9' : Below wc.heap.size wc w10 := hb8'.trans (hb10.mono hb8'.size)))
      all_goals go_wp2
      all_goals go_meet
      all_goals exact ⟨rfl, hb9'⟩
  case rest =>
  obtain ⟨rfl, hbc⟩ := hcut
  replace IN0 := Lib.hid (IN0.out.below hbc)
  replace BI0 := Lib.hid (BI0.out.keep hbc)
  replace IN1 := Lib.hid (IN1.out.below hbc)
  replace BI1 := Lib.hid (BI1.out.keep hbc)
  replace IN2 := Lib.hid (IN2.out.below hbc)
  replace BI2 := Lib.hid (BI2.out.keep hbc)
  replace IN3 := Lib.hid (IN3.out.below hbc)
  replace BI3 := Lib.hid (BI3.out.keep hbc)
  replace IN4 := Lib.hid (IN4.out.below hbc)
  replace BI4 := Lib.hid (BI4.out.keep hbc)
  replace DZ := Lib.hid (DZ.out.below hbc)
  replace BZ := Lib.hid (BZ.out.keep hbc)
  replace YS := Lib.hid (YS.out.below hbc)
  replace YB := Lib.hid (YB.out.keep hbc)
  replace YV_ := Lib.hid (YV_.out.trans (hbc.mono YV_.out.size))
  clear hbc q6 q1 HZC
  have q6 := BI4.out.cell
  have q1 := (HX4.out.keep (HB5.out.trans ((HBC.out.trans (YV_.out.mono HBC.out.size)).mono HB5.out.size))).cell
  have HZC := Lib.hid (HZ4.out _ (HBC.out.trans (YV_.out.mono HBC.out.size)))
  go_upto_region 34 with fail
  go_cut [117] (fun s wx => s = .bool false ∧ Below wc.heap.size wc wx)
  case first =>
    as_aux_lemma =>
      go_region_held3 (fun W => W.cell? ⟨wx4.heap.size, 0, none⟩ = some (.slice x4p U.length x4c) ∧ W.cell? ⟨w.heap.size + 4, 0, none⟩ = some (.slice a4p U.length a4c))
        (first | go_keep | exact ⟨hb8'.at' q6, hb8'.at' q1⟩ | exact ⟨hb9'.at' q6, hb9'.at' q1⟩)
        (first | (go_at_call 26; refine (toModel_any _ U L4.out.1 L4.out.2 _ (HZC.out.below (below_dN (Below.refl _ _) 1))).mono ?_; rintro e w9 ⟨x', rfl, ho8, hb9⟩; obtain ⟨xp', xc', rfl⟩ := ho8.shape; have hb8' : Below wc.heap.size wc w9 := (below_dN (Below.refl _ _) 1).trans hb9) | (go_at_call 28; refine (eqModel_b _ _ U _ ((IN4.out.below hb8').own.gr' L4.out) (ho8.gr' L4.out)).mono ?_; rintro e w10 ⟨rfl, hb10⟩; have hb9' : Below wc.heap.size wc w10 := hb8'.trans (hb10.mono hb8'.size)))
      all_goals go_wp2
      all_goals go_meet
      all_goals exact ⟨rfl, hb9'⟩
  case rest =>
  obtain ⟨rfl, hbc⟩ := hcut
  replace IN0 := Lib.hid (IN0.out.below hbc)
  replace BI0 := Lib.hid (BI0.out.keep hbc)
  replace IN1 := Lib.hid (IN1.out.below hbc)
  replace BI1 := Lib.hid (BI1.out.keep hbc)
  replace IN2 := Lib.hid (IN2.out.below hbc)
  replace BI2 := Lib.hid (BI2.out.keep hbc)
  replace IN3 := Lib.hid (IN3.out.below hbc)
  replace BI3 := Lib.hid (BI3.out.keep hbc)
  replace IN4 := Lib.hid (IN4.out.below hbc)
  replace BI4 := Lib.hid (BI4.out.keep hbc)
  replace DZ := Lib.hid (DZ.out.below hbc)
  replace BZ := Lib.hid (BZ.out.keep hbc)
  replace YS := Lib.hid (YS.out.below hbc)
  replace YB := Lib.hid (YB.out.keep hbc)
  replace YV_ := Lib.hid (YV_.out.trans (hbc.mono YV_.out.size))
  clear hbc q6 q1 HZC
  have km := BI0.out.cell
  go_upto_region 38 with (go_at_call 20; refine (markGraph_k _ g _ _ _ L0.out.1 L0.out.2 (by decide) 1 (by decide) (by decide) _ IN0.out).mono ?_; rintro e wm0 ⟨⟨z0m, rfl, hm⟩, hap⟩)
  have hm0 := Lib.hid hm
  replace IN1 := Lib.hid (IN1.out.apart_hi hap (by omega))
  replace BI1 := Lib.hid (BI1.out.apart hap (by omega))
  replace IN2 := Lib.hid (IN2.out.apart_hi hap (by omega))
  replace BI2 := Lib.hid (BI2.out.apart hap (by omega))
  replace IN3 := Lib.hid (IN3.out.apart_hi hap (by omega))
  replace BI3 := Lib.hid (BI3.out.apart hap (by omega))
  replace IN4 := Lib.hid (IN4.out.apart_hi hap (by omega))
  replace BI4 := Lib.hid (BI4.out.apart hap (by omega))
  have lz := BZ.out.lt
  replace YV_ := Lib.hid (YV_.out.trans ((hap.below (by omega)).mono (by omega)))
  replace DZ := Lib.hid (DZ.out.apart hap (by omega))
  replace BZ := Lib.hid (BZ.out.apart hap (by omega))
  clear hap km hm lz
  have km := BI1.out.cell
  go_upto_region 39 with (go_at_call 20; refine (markGraph_k _ p _ _ _ L1.out.1 L1.out.2 hm0.out.1 1100000000001 hm0.out.2 (by decide) _ IN1.out).mono ?_; rintro e wm1 ⟨⟨z1m, rfl, hm⟩, hap⟩)
  have hm1 := Lib.hid hm
  replace IN2 := Lib.hid (IN2.out.apart_hi hap (by omega))
  replace BI2 := Lib.hid (BI2.out.apart hap (by omega))
  replace IN3 := Lib.hid (IN3.out.apart_hi hap (by omega))
  replace BI3 := Lib.hid (BI3.out.apart hap (by omega))
  replace IN4 := Lib.hid (IN4.out.apart_hi hap (by omega))
  replace BI4 := Lib.hid (BI4.out.apart hap (by omega))
  have lz := BZ.out.lt
  replace YV_ := Lib.hid (YV_.out.trans ((hap.below (by omega)).mono (by omega)))
  replace DZ := Lib.hid (DZ.out.apart hap (by omega))
  replace BZ := Lib.hid (BZ.out.apart hap (by omega))
  clear hap km hm lz
  have km := BI2.out.cell
  go_upto_region 40 with (go_at_call 29; refine (markModel_k _ M _ _ _ L2.out.1 L2.out.2 hm1.out.1 2200000000001 hm1.out.2 (by decide) _ IN2.out).mono ?_; rintro e wm2 ⟨⟨z2m, rfl, hm⟩, hap⟩)
  have hm2 := Lib.hid hm
  replace IN3 := Lib.hid (IN3.out.apart_hi hap (by omega))
  replace BI3 := Lib.hid (BI3.out.apart hap (by omega))
  replace IN4 := Lib.hid (IN4.out.apart_hi hap (by omega))
  replace BI4 := Lib.hid (BI4.out.apart hap (by omega))
  have lz := BZ.out.lt
  replace YV_ := Lib.hid (YV_.out.trans ((hap.below (by omega)).mono (by omega)))
  replace DZ := Lib.hid (DZ.out.apart hap (by omega))
  replace BZ := Lib.hid (BZ.out.apart hap (by omega))
  clear hap km hm lz
  have km := BI3.out.cell
  go_upto_region 41 with (go_at_call 20; refine (markGraph_k _ q _ _ _ L3.out.1 L3.out.2 hm2.out.1 3300000000001 hm2.out.2 (by decide) _ IN3.out).mono ?_; rintro e wm3 ⟨⟨z3m, rfl, hm⟩, hap⟩)
  have hm3 := Lib.hid hm
  replace IN4 := Lib.hid (IN4.out.apart_hi hap (by omega))
  replace BI4 := Lib.hid (BI4.out.apart hap (by omega))
  have lz := BZ.out.lt
  replace YV_ := Lib.hid (YV_.out.trans ((hap.below (by omega)).mono (by omega)))
  replace DZ := Lib.hid (DZ.out.apart hap (by omega))
  replace BZ := Lib.hid (BZ.out.apart hap (by omega))
  clear hap km hm lz
  have km := BI4.out.cell
  go_upto_region 42 with (go_at_call 29; refine (markModel_k _ U _ _ _ L4.out.1 L4.out.2 hm3.out.1 4400000000001 hm3.out.2 (by decide) _ IN4.out).mono ?_; rintro e wm4 ⟨⟨z4m, rfl, hm⟩, hap⟩)
  have hm4 := Lib.hid hm
  have lz := BZ.out.lt
  replace YV_ := Lib.hid (YV_.out.trans ((hap.below (by omega)).mono (by omega)))
  replace DZ := Lib.hid (DZ.out.apart hap (by omega))
  replace BZ := Lib.hid (BZ.out.apart hap (by omega))
  clear hap km hm lz
  clear YS YB
  have YS := Lib.hid (YS0.out.below YV_.out)
  have YB := Lib.hid (YB0.out.keep YV_.out)
  have ky := YB.out.cell
  have kz := BZ.out.cell
  have hzn : ¬ z4m < 0 := by have := hm4.out.1; omega
  go_upto_region 44 with (go_at_call 28; refine (eqModel_b _ _ R2 _ (DZ.out.dg.gr (by omega) (fun j hj => by have := HRr.out j; omega)) (YS.out.gr (by omega))).mono ?_; rintro e we ⟨rfl, hb⟩)
  replace DZ := Lib.hid (DZ.out.below hb)
  replace BZ := Lib.hid (BZ.out.keep hb)
  replace YV_ := Lib.hid (YV_.out.trans (hb.mono YV_.out.size))
  clear hb ky kz YS YB
  have kz := BZ.out.cell
  go_upto_region 46 with (go_at_call 29; refine (markModel_x _ R2 _ _ 1 (by omega) (fun j => by have := HRr.out j; omega) (by decide) (by decide) _ DZ.out).mono ?_; rintro e wh ⟨rfl, hd12, hap⟩)
  have G12 := Lib.hid (hd12.dg.gr (by rw [markG_length]; omega) (fun j hj => by rw [markG_length] at hj; rw [row_markG hj, marks_length]; have := HRr.out j; omega))
  have lz := BZ.out.lt
  replace YV_ := Lib.hid (YV_.out.trans ((hap.below (by omega)).mono (by omega)))
  replace BZ := Lib.hid (BZ.out.apart hap (by omega))
  clear lz hd12 hap kz DZ
  have kz := BZ.out.cell
  have hn1 : ¬ (1 + (preL R2 R2.length : Int)) < 0 := by omega
  go_upto_region 52 with (go_at_call 30; refine (heldModel_x _ R2 1 (by omega) (fun j => by have := HRr.out j; omega) (by decide) (by decide) _ G12.out).mono ?_; rintro e wp ⟨rfl, hb⟩)
  replace G12 := Lib.hid (G12.out.below hb)
  replace BZ := Lib.hid (BZ.out.keep hb)
  replace YV_ := Lib.hid (YV_.out.trans (hb.mono YV_.out.size))
  clear hb kz
  have HW := Lib.hid (HBC.out.trans (YV_.out.mono HBC.out.size))
  have CEM : Hid (∀ w' : World, Below wp.heap.size wp w' → w'.cell? ⟨w.heap.size, 0, none⟩ = some (.slice a0p g.length a0c) ∧ w'.cell? ⟨w.heap.size + 1, 0, none⟩ = some (.slice a1p p.length a1c) ∧ w'.cell? ⟨w.heap.size + 2, 0, none⟩ = some (.slice a2p M.length a2c) ∧ w'.cell? ⟨w.heap.size + 3, 0, none⟩ = some (.slice a3p q.length a3c) ∧ w'.cell? ⟨w.heap.size + 4, 0, none⟩ = some (.slice a4p U.length a4c)) := Lib.hid (fun w' hb => CEL.out w' (HW.out.trans (hb.mono HW.out.size)))
  have ST1 : Hid (StM wp wp []) := Lib.hid ⟨Below.refl _ _, fun y hy => by simp at hy⟩
  have HTP := Lib.hid (HT.out.keep (HB5.out.trans (HW.out.mono HB5.out.size)))
  replace HZ0 : Hid (∀ w' : World, Below wp.heap.size wp w' → ArgG w' (.agg #[.slice a0p g.length a0c]) g) := Lib.hid (fun w' hb => HZ0.out w' (HW.out.trans (hb.mono HW.out.size)))
  replace HZ1 : Hid (∀ w' : World, Below wp.heap.size wp w' → ArgG w' (.agg #[.slice a1p p.length a1c]) p) := Lib.hid (fun w' hb => HZ1.out w' (HW.out.trans (hb.mono HW.out.size)))
  replace HZ2 : Hid (∀ w' : World, Below wp.heap.size wp w' → ArgG w' (.agg #[.slice a2p M.length a2c]) M) := Lib.hid (fun w' hb => HZ2.out w' (HW.out.trans (hb.mono HW.out.size)))
  replace HZ3 : Hid (∀ w' : World, Below wp.heap.size wp w' → ArgG w' (.agg #[.slice a3p q.length a3c]) q) := Lib.hid (fun w' hb => HZ3.out w' (HW.out.trans (hb.mono HW.out.size)))
  replace HZ4 : Hid (∀ w' : World, Below wp.heap.size wp w' → ArgG w' (.agg #[.slice a4p U.length a4c]) U) := Lib.hid (fun w' hb => HZ4.out w' (HW.out.trans (hb.mono HW.out.size)))
  have Q0 := CEM.out _ (Below.refl _ _)
  go_cut [24, 25] (fun s24 s25 wx => ∃ (b : Nat) (yp : Option Addr) (yc : Nat), s24 = .pointer (some ⟨b, 0, none⟩) ∧ s25 = .bool ok2 ∧ Below wp.heap.size wp wx ∧ Box wx b 41 (.slice yp R2.length yc) ∧ DG wx wp.heap.size (.agg #[.slice yp R2.length yc]) R2 ∧ wp.heap.size ≤ b)
  case first =>
    as_aux_lemma =>
      go_region_held3 (fun w' => w'.cell? ⟨w.heap.size, 0, none⟩ = some (.slice a0p g.length a0c) ∧ w'.cell? ⟨w.heap.size + 1, 0, none⟩ = some (.slice a1p p.length a1c) ∧ w'.cell? ⟨w.heap.size + 2, 0, none⟩ = some (.slice a2p M.length a2c) ∧ w'.cell? ⟨w.heap.size + 3, 0, none⟩ = some (.slice a3p q.length a3c) ∧ w'.cell? ⟨w.heap.size + 4, 0, none⟩ = some (.slice a4p U.length a4c))
        (first | exact Q0 | exact CEM.out _ hs6.bel | exact CEM.out _ hs5.bel | exact CEM.out _ hs4.bel | exact CEM.out _ hs3.bel | exact CEM.out _ hs2.bel | exact CEM.out _ hs1.bel | exact CEM.out _ (hs6.next (below_alloc _ _)).bel | exact CEM.out _ (hs5.next (below_alloc _ _)).bel | exact CEM.out _ (hs4.next (below_alloc _ _)).bel | exact CEM.out _ (hs3.next (below_alloc _ _)).bel | exact CEM.out _ (hs2.next (below_alloc _ _)).bel | exact CEM.out _ (hs1.next (below_alloc _ _)).bel | exact CEM.out _ (StM.bel (hs6.next (below_alloc _ _)) |>.setCell (by first | exact Nat.le_refl _ | exact hs1.bel.size | exact hs2.bel.size | exact hs3.bel.size | exact hs4.bel.size | exact hs5.bel.size | exact hs6.bel.size) _) | exact CEM.out _ (hs6.bel.setCell (by first | exact Nat.le_refl _ | exact hs1.bel.size | exact hs2.bel.size | exact hs3.bel.size | exact hs4.bel.size | exact hs5.bel.size | exact hs6.bel.size) _) | go_keep)
        (first | (go_at_call 27; refine (implComposedModel_any _ _ _ _ _ g p M q U (by have := L0.out.1; omega) (by have := L1.out.1; omega) _ (OwnG.gr' (base := wp.heap.size) (StM.own (W2 := wp) (ys := [(y4, U), (y3, q), (y2, M), (y1, p), (y0, g)]) (by first | exact hs5 | exact hs5.next (below_dN (Below.refl _ _) _) | exact hs5.next (below_alloc _ _) | exact (hs5.next (below_dN (Below.refl _ _) _)).next (below_alloc _ _) | exact (hs5.next (below_alloc _ _)).next (below_dN (Below.refl _ _) _)) (y0, g) (by simp)) L0.out) (OwnG.gr' (base := wp.heap.size) (StM.own (W2 := wp) (ys := [(y4, U), (y3, q), (y2, M), (y1, p), (y0, g)]) (by first | exact hs5 | exact hs5.next (below_dN (Below.refl _ _) _) | exact hs5.next (below_alloc _ _) | exact (hs5.next (below_dN (Below.refl _ _) _)).next (below_alloc _ _) | exact (hs5.next (below_alloc _ _)).next (below_dN (Below.refl _ _) _)) (y1, p) (by simp)) L1.out) (OwnG.gr' (base := wp.heap.size) (StM.own (W2 := wp) (ys := [(y4, U), (y3, q), (y2, M), (y1, p), (y0, g)]) (by first | exact hs5 | exact hs5.next (below_dN (Below.refl _ _) _) | exact hs5.next (below_alloc _ _) | exact (hs5.next (below_dN (Below.refl _ _) _)).next (below_alloc _ _) | exact (hs5.next (below_alloc _ _)).next (below_dN (Below.refl _ _) _)) (y2, M) (by simp)) L2.out) (OwnG.gr' (base := wp.heap.size) (StM.own (W2 := wp) (ys := [(y4, U), (y3, q), (y2, M), (y1, p), (y0, g)]) (by first | exact hs5 | exact hs5.next (below_dN (Below.refl _ _) _) | exact hs5.next (below_alloc _ _) | exact (hs5.next (below_dN (Below.refl _ _) _)).next (below_alloc _ _) | exact (hs5.next (below_alloc _ _)).next (below_dN (Below.refl _ _) _)) (y3, q) (by simp)) L3.out) (OwnG.gr' (base := wp.heap.size) (StM.own (W2 := wp) (ys := [(y4, U), (y3, q), (y2, M), (y1, p), (y0, g)]) (by first | exact hs5 | exact hs5.next (below_dN (Below.refl _ _) _) | exact hs5.next (below_alloc _ _) | exact (hs5.next (below_dN (Below.refl _ _) _)).next (below_alloc _ _) | exact (hs5.next (below_alloc _ _)).next (below_dN (Below.refl _ _) _)) (y4, U) (by simp)) L4.out) (HTP.out.keep (StM.bel (W2 := wp) (ys := [(y4, U), (y3, q), (y2, M), (y1, p), (y0, g)]) (by first | exact hs5 | exact hs5.next (below_dN (Below.refl _ _) _) | exact hs5.next (below_alloc _ _) | exact (hs5.next (below_dN (Below.refl _ _) _)).next (below_alloc _ _) | exact (hs5.next (below_alloc _ _)).next (below_dN (Below.refl _ _) _))))).mono ?_; rintro e wy5 ⟨uv, R', ok', rfl, hS, hdg, _, _, hb5⟩; obtain ⟨e1, e2⟩ := cmS_det hS HS4.out.1; rw [e1] at hdg; obtain ⟨yp, yc, rfl⟩ := hdg.shape; rw [e2]; have hs6 : StM wp wy5 [(y4, U), (y3, q), (y2, M), (y1, p), (y0, g)] := StM.next (by first | exact hs5 | exact hs5.next (below_dN (Below.refl _ _) _) | exact hs5.next (below_alloc _ _) | exact (hs5.next (below_dN (Below.refl _ _) _)).next (below_alloc _ _) | exact (hs5.next (below_alloc _ _)).next (below_dN (Below.refl _ _) _)) hb5; have HDG : Hid (DG wy5 wp.heap.size (.agg #[.slice yp R2.length yc]) R2) := Lib.hid (hdg.base (StM.bel (W2 := wp) (ys := [(y4, U), (y3, q), (y2, M), (y1, p), (y0, g)]) (by first | exact hs5 | exact hs5.next (below_dN (Below.refl _ _) _) | exact hs5.next (below_alloc _ _) | exact (hs5.next (below_dN (Below.refl _ _) _)).next (below_alloc _ _) | exact (hs5.next (below_alloc _ _)).next (below_dN (Below.refl _ _) _))).size); clear hS hdg e1 e2; (first | (have bx := bx.keep hb5; have bc := bx.cell; have bf := bx.free) | (have bx := Box.keep (Box.new _ (.slice none 0 0) 41) hb5; have bc := bx.cell; have bf := bx.free) | (have bx := Box.keep (Box.keep (Box.new _ (.slice none 0 0) 41) (below_dN (Below.refl _ _) _)) hb5; have bc := bx.cell; have bf := bx.free) | skip)) | (go_at_call 26; refine (toModel_any _ U L4.out.1 L4.out.2 _ (HZ4.out _ (StM.bel (W2 := wp) (ys := [(y3, q), (y2, M), (y1, p), (y0, g)]) (by first | exact hs4 | exact hs4.next (below_dN (Below.refl _ _) _) | exact hs4.next (below_alloc _ _) | exact (hs4.next (below_dN (Below.refl _ _) _)).next (below_alloc _ _) | exact (hs4.next (below_alloc _ _)).next (below_dN (Below.refl _ _) _))))).mono ?_; rintro e wy4 ⟨y4, rfl, ho, hb4⟩; have hs5 : StM wp wy4 ((y4, U) :: [(y3, q), (y2, M), (y1, p), (y0, g)]) := StM.add (by first | exact hs4 | exact hs4.next (below_dN (Below.refl _ _) _) | exact hs4.next (below_alloc _ _) | exact (hs4.next (below_dN (Below.refl _ _) _)).next (below_alloc _ _) | exact (hs4.next (below_alloc _ _)).next (below_dN (Below.refl _ _) _)) hb4 ho; clear ho; (first | (have bx := bx.keep hb4; have bc := bx.cell; have bf := bx.free) | (have bx := Box.keep (Box.new _ (.slice none 0 0) 41) hb4; have bc := bx.cell; have bf := bx.free) | (have bx := Box.keep (Box.keep (Box.new _ (.slice none 0 0) 41) (below_dN (Below.refl _ _) _)) hb4; have bc := bx.cell; have bf := bx.free) | skip)) | (go_at_call 14; refine (toGraph_any _ q L3.out.1 L3.out.2 _ (HZ3.out _ (StM.bel (W2 := wp) (ys := [(y2, M), (y1, p), (y0, g)]) (by first | exact hs3 | exact hs3.next (below_dN (Below.refl _ _) _) | exact hs3.next (below_alloc _ _) | exact (hs3.next (below_dN (Below.refl _ _) _)).next (below_alloc _ _) | exact (hs3.next (below_alloc _ _)).next (below_dN (Below.refl _ _) _))))).mono ?_; rintro e wy3 ⟨y3, rfl, ho, hb3⟩; have hs4 : StM wp wy3 ((y3, q) :: [(y2, M), (y1, p), (y0, g)]) := StM.add (by first | exact hs3 | exact hs3.next (below_dN (Below.refl _ _) _) | exact hs3.next (below_alloc _ _) | exact (hs3.next (below_dN (Below.refl _ _) _)).next (below_alloc _ _) | exact (hs3.next (below_alloc _ _)).next (below_dN (Below.refl _ _) _)) hb3 ho; clear ho; (first | (have bx := bx.keep hb3; have bc := bx.cell; have bf := bx.free) | (have bx := Box.keep (Box.new _ (.slice none 0 0) 41) hb3; have bc := bx.cell; have bf := bx.free) | (have bx := Box.keep (Box.keep (Box.new _ (.slice none 0 0) 41) (below_dN (Below.refl _ _) _)) hb3; have bc := bx.cell; have bf := bx.free) | skip)) | (go_at_call 26; refine (toModel_any _ M L2.out.1 L2.out.2 _ (HZ2.out _ (StM.bel (W2 := wp) (ys := [(y1, p), (y0, g)]) (by first | exact hs2 | exact hs2.next (below_dN (Below.refl _ _) _) | exact hs2.next (below_alloc _ _) | exact (hs2.next (below_dN (Below.refl _ _) _)).next (below_alloc _ _) | exact (hs2.next (below_alloc _ _)).next (below_dN (Below.refl _ _) _))))).mono ?_; rintro e wy2 ⟨y2, rfl, ho, hb2⟩; have hs3 : StM wp wy2 ((y2, M) :: [(y1, p), (y0, g)]) := StM.add (by first | exact hs2 | exact hs2.next (below_dN (Below.refl _ _) _) | exact hs2.next (below_alloc _ _) | exact (hs2.next (below_dN (Below.refl _ _) _)).next (below_alloc _ _) | exact (hs2.next (below_alloc _ _)).next (below_dN (Below.refl _ _) _)) hb2 ho; clear ho; (first | (have bx := bx.keep hb2; have bc := bx.cell; have bf := bx.free) | (have bx := Box.keep (Box.new _ (.slice none 0 0) 41) hb2; have bc := bx.cell; have bf := bx.free) | (have bx := Box.keep (Box.keep (Box.new _ (.slice none 0 0) 41) (below_dN (Below.refl _ _) _)) hb2; have bc := bx.cell; have bf := bx.free) | skip)) | (go_at_call 14; refine (toGraph_any _ p L1.out.1 L1.out.2 _ (HZ1.out _ (StM.bel (W2 := wp) (ys := [(y0, g)]) (by first | exact hs1 | exact hs1.next (below_dN (Below.refl _ _) _) | exact hs1.next (below_alloc _ _) | exact (hs1.next (below_dN (Below.refl _ _) _)).next (below_alloc _ _) | exact (hs1.next (below_alloc _ _)).next (below_dN (Below.refl _ _) _))))).mono ?_; rintro e wy1 ⟨y1, rfl, ho, hb1⟩; have hs2 : StM wp wy1 ((y1, p) :: [(y0, g)]) := StM.add (by first | exact hs1 | exact hs1.next (below_dN (Below.refl _ _) _) | exact hs1.next (below_alloc _ _) | exact (hs1.next (below_dN (Below.refl _ _) _)).next (below_alloc _ _) | exact (hs1.next (below_alloc _ _)).next (below_dN (Below.refl _ _) _)) hb1 ho; clear ho; (first | (have bx := bx.keep hb1; have bc := bx.cell; have bf := bx.free) | (have bx := Box.keep (Box.new _ (.slice none 0 0) 41) hb1; have bc := bx.cell; have bf := bx.free) | (have bx := Box.keep (Box.keep (Box.new _ (.slice none 0 0) 41) (below_dN (Below.refl _ _) _)) hb1; have bc := bx.cell; have bf := bx.free) | skip)) | (go_at_call 14; refine (toGraph_any _ g L0.out.1 L0.out.2 _ (HZ0.out _ (StM.bel (W2 := wp) (ys := []) (by first | exact ST1.out | exact ST1.out.next (below_dN (Below.refl _ _) _) | exact ST1.out.next (below_alloc _ _) | exact (ST1.out.next (below_dN (Below.refl _ _) _)).next (below_alloc _ _) | exact (ST1.out.next (below_alloc _ _)).next (below_dN (Below.refl _ _) _))))).mono ?_; rintro e wy0 ⟨y0, rfl, ho, hb0⟩; have hs1 : StM wp wy0 ((y0, g) :: []) := StM.add (by first | exact ST1.out | exact ST1.out.next (below_dN (Below.refl _ _) _) | exact ST1.out.next (below_alloc _ _) | exact (ST1.out.next (below_dN (Below.refl _ _) _)).next (below_alloc _ _) | exact (ST1.out.next (below_alloc _ _)).next (below_dN (Below.refl _ _) _)) hb0 ho; clear ho; (first | (have bx := bx.keep hb0; have bc := bx.cell; have bf := bx.free) | (have bx := Box.keep (Box.new _ (.slice none 0 0) 41) hb0; have bc := bx.cell; have bf := bx.free) | (have bx := Box.keep (Box.keep (Box.new _ (.slice none 0 0) 41) (below_dN (Below.refl _ _) _)) hb0; have bc := bx.cell; have bf := bx.free) | skip)))
      all_goals go_wp2
      all_goals go_meet
      all_goals first
        | exact ⟨_, yp, yc, rfl, rfl, hs6.bel.setCell (by first | exact Nat.le_refl _ | exact hs1.bel.size | exact hs2.bel.size | exact hs3.bel.size | exact hs4.bel.size | exact hs5.bel.size | exact hs6.bel.size) _, bx.set _, HDG.out.setMm bx _, (by first | exact Nat.le_refl _ | exact hs1.bel.size | exact hs2.bel.size | exact hs3.bel.size | exact hs4.bel.size | exact hs5.bel.size | exact hs6.bel.size)⟩
        | exact ⟨_, yp, yc, rfl, rfl, (hs6.next (below_alloc _ _)).bel, Box.new _ _ _, HDG.out.below (below_alloc _ _), hs6.bel.size⟩
  case rest =>
  obtain ⟨yb2, yp2, yc2, rfl, rfl, hbc, hby, hdy, hlo⟩ := hcut
  replace G12 := Lib.hid (G12.out.below hbc)
  replace BZ := Lib.hid (BZ.out.keep hbc)
  replace YV_ := Lib.hid (YV_.out.trans (hbc.mono YV_.out.size))
  have YS := Lib.hid (YS0.out.below YV_.out)
  have YB := Lib.hid (YB0.out.keep YV_.out)
  have ky := YB.out.cell
  have kz := hby.cell
  have kx := BZ.out.cell
  clear hlo Q0
  go_wp2_with (first
    | (go_at_call 30; refine (heldModel_x _ R2 1 (by omega) (fun j => by have := HRr.out j; omega) (by decide) (by decide) _ (G12.out.below hbe)).mono ?_; rintro e wq ⟨rfl, hbq⟩)
    | (go_at_call 28; refine (eqModel_b _ _ R2 _ (hdy.gr (by omega) (fun j hj => by have := HRr.out j; omega)) (YS.out.gr (by omega))).mono ?_; rintro e we2 ⟨rfl, hbe⟩; have kx := hbe.at' kx))
  go_ret
  exact ⟨rfl, HBA.out.trans ((HB5.out.trans ((HBC.out.trans ((YV_.out.trans ((hbe.trans (hbq.mono hbe.size)).mono YV_.out.size)).mono HBC.out.size)).mono HB5.out.size)).mono HBA.out.size)⟩

end Go.Proofs.YtihlcmenfopaiaaDoor
