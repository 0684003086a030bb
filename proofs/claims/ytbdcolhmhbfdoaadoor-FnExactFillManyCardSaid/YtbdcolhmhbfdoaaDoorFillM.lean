/- Walks: how many edges a graph has, how many an order fills in, whether none; of both. -/
import Derived.Test.YtbdcolhmhbfdoaaDoorEdges
import Derived.Test.YtbdcolhmhbfdoaaDoorFillF
namespace Go.Proofs.YtbdcolhmhbfdoaaDoor
open Go.RowKit

theorem gok_rows {g : List (List Int)} (hok : GOk g) (j : Nat) : (row g j).length ≤ 16 := by
  have h16 := hok.le
  by_cases hj : j < g.length
  · have h1 := setIn_length (by omega) (hok.sets j hj).1; omega
  · rw [row_out hj]; simp

theorem specManyEdges_any (v : Value) (g : List (List Int)) (hok : GOk g) (w : World) (hg : Gr w v g) :
    Calls Tryd.prog 52 #[v] w fun e w' => e = .returned (.int .i64 (cntE g g.length : Nat)) ∧ Below w.heap.size w w' := by
  have hg0 := hg
  obtain ⟨u, rfl, hr⟩ := hg
  obtain ⟨p, c, rfl, _⟩ := hr.shape
  have hbA := Lib.hid (below_alloc w (.cells #[.slice p g.length c] 27))
  have BX := Lib.hid (Box.new w (.slice p g.length c) 27)
  have HG := Lib.hid (hg0.below hbA.out)
  have hd := dec_true hok
  have Hok := Lib.hid hok
  have h16 := hok.le
  clear hr hg0 hok
  go_enter Tryd.func52, Tryd.ntmps52
  go_wp2_with (first
    | (go_at_call 60; refine (specGraphOk_any _ g _ HG.out).mono ?_; rintro e w2 ⟨rfl, hb2⟩; have hbx := (BX.out.keep hb2).cell)
    | (go_at_call 82; refine (l1Edges_any _ g h16 (gok_rows Hok.out) _ (HG.out.below hb2)).mono ?_; rintro e w3 ⟨u3, vals, rfl, ho3, hb3⟩; obtain ⟨p3, c3, rfl⟩ := owns_shape ho3))
  go_ret
  exact ⟨rfl, (hbA.out.trans (hb2.mono hbA.out.size)).trans (hb3.mono (Nat.le_trans hbA.out.size hb2.size))⟩

theorem implManyEdges_any (v : Value) (g : List (List Int)) (hok : GOk g) (w : World) (hg : Gr w v g) :
    Calls Tryd.prog 53 #[v] w fun e w' => e = .returned (.int .i64 (cntE g g.length : Nat)) ∧ Below w.heap.size w w' := by
  have hd := dec_true hok
  have Hok := Lib.hid hok
  have h16 := hok.le
  clear hok
  have E : Hid (∀ (w : World), Gr w v g → Calls Tryd.prog 83 #[v] w fun e w' => ∃ p c, e = .returned (.slice p (cntE g g.length) c) ∧ Below w.heap.size w w') := Lib.hid (by
    clear hg w
    intro w hg
    have hg0 := hg
    obtain ⟨u, rfl, hr⟩ := hg
    obtain ⟨p, c, rfl, _⟩ := hr.shape
    have hbA := Lib.hid (below_alloc w (.cells #[.slice p g.length c] 27))
    have BX := Lib.hid (Box.new w (.slice p g.length c) 27)
    have HG := Lib.hid (hg0.below hbA.out)
    clear hr hg0
    go_enter Tryd.func83, Tryd.ntmps83
    go_wp2_with (first
      | (go_at_call 68; refine (implGraphOk_any _ g _ HG.out).mono ?_; rintro e w2 ⟨rfl, hb2⟩; have hbx := (BX.out.keep hb2).cell)
      | (go_at_call 105; refine (edgesOf_any _ g h16 (gok_rows Hok.out) _ (HG.out.below hb2)).mono ?_; rintro e w3 ⟨u3, vals, rfl, ho3, hb3⟩; obtain ⟨p3, c3, rfl⟩ := owns_shape ho3))
    go_ret
    exact ⟨_, _, rfl, (hbA.out.trans (hb2.mono hbA.out.size)).trans (hb3.mono (Nat.le_trans hbA.out.size hb2.size))⟩)
  have hg0 := hg
  obtain ⟨u, rfl, hr⟩ := hg
  obtain ⟨p, c, rfl, _⟩ := hr.shape
  have hbA := Lib.hid (below_alloc w (.cells #[.slice p g.length c] 27))
  have HG := Lib.hid (hg0.below hbA.out)
  clear hr hg0
  go_enter Tryd.func53, Tryd.ntmps53
  go_wp2_with (go_at_call 83; refine (E.out _ HG.out).mono ?_; rintro e w2 ⟨p2, c2, rfl, hb2⟩)
  go_ret
  exact ⟨rfl, hbA.out.trans (hb2.mono hbA.out.size)⟩

theorem fill_no {g gg : List (List Int)} {l : List Int} {ok : Bool} (h : FillS g l gg ok) (hn : ¬ (GOk g ∧ OrdOk g.length l)) : gg = [] ∧ ok = false := by
  rcases h with ⟨_, h1, h2, _⟩ | ⟨rfl, rfl, _⟩
  · exact absurd ⟨h1, h2⟩ hn
  · exact ⟨rfl, rfl⟩
theorem fill_yes {g gg : List (List Int)} {l : List Int} {ok : Bool} (h : FillS g l gg ok) (hn : GOk g ∧ OrdOk g.length l) : gg = matG g.length (fillP (ofG g) (l.map Int.toNat) l.length) ∧ ok = true := by
  rcases h with ⟨rfl, _, _, rfl⟩ | ⟨_, _, h⟩
  · exact ⟨rfl, rfl⟩
  · exact absurd hn h
/-- How many edges an order fills in; -1 where it is none. -/
noncomputable def manyV (g : List (List Int)) (l : List Int) : Int := if dec (GOk g ∧ OrdOk g.length l) = true then (cntE (matG g.length (fillP (ofG g) (l.map Int.toNat) l.length)) g.length : Nat) - (cntE g g.length : Nat) else -1

theorem cnt256 {g : List (List Int)} (hok : GOk g) : cntE g g.length ≤ 256 := by
  have h1 := cntE_le (gok_rows hok) g.length
  have : g.length * 16 ≤ 16 * 16 := Nat.mul_le_mul_right _ hok.le
  omega

set_option maxRecDepth 100000 in
set_option maxHeartbeats 2000000 in
theorem specFillMany_any (v lv : Value) (g : List (List Int)) (l : List Int) (w : World) (hg : Gr w v g) (hn : Nums w 2 .i64 lv l) :
    Calls Tryd.prog 28 #[v, lv] w fun e w' => ∃ z, e = .returned (.int .i64 z) ∧ z = manyV g l ∧ Below w.heap.size w w' := by
  have hg0 := hg
  obtain ⟨u, rfl, hr⟩ := hg
  obtain ⟨p, c, rfl, _⟩ := hr.shape
  obtain ⟨lp, lc, rfl, _⟩ := id hn.shape
  have hbA := Lib.hid (below_alloc w (.cells #[.slice p g.length c] 27))
  have BX := Lib.hid (Box.new w (.slice p g.length c) 27)
  have HG := Lib.hid (hg0.below hbA.out)
  have HN := Lib.hid (hn.below hbA.out)
  have h0 := hbA.out.size
  clear hr hg0 hn
  by_cases hok : GOk g ∧ OrdOk g.length l
  case neg =>
    have hd := dec_false hok
    have hz : Hid (-1 = manyV g l) := Lib.hid (by unfold manyV; rw [hd]; rfl)
    clear hok
    go_enter Tryd.func28, Tryd.ntmps28
    go_wp2_with (go_at_call 39; refine (specOrderOk_any _ _ g l _ HG.out HN.out).mono ?_; rintro e w2 ⟨rfl, hb2⟩)
    go_ret
    exact ⟨_, rfl, hz.out, hbA.out.trans (hb2.mono hbA.out.size)⟩
  have hd := dec_true hok
  have hz : Hid (((cntE (matG g.length (fillP (ofG g) (l.map Int.toNat) l.length)) g.length : Nat) : Int) - (cntE g g.length : Nat) = manyV g l) := Lib.hid (by unfold manyV; rw [hd]; rfl)
  have HF := Lib.hid (gok_fill hok.1 (l.map Int.toNat) l.length)
  have Hok := Lib.hid hok
  have c1 := cnt256 hok.1
  have c2 := cnt256 HF.out
  have hml := matG_length g.length (fillP (ofG g) (l.map Int.toNat) l.length)
  rw [hml] at c2
  have hle := hok.1.le
  have Hml := Lib.hid hml
  clear hok hml
  go_enter Tryd.func28, Tryd.ntmps28
  go_upto_region 3 with (go_at_call 39; refine (specOrderOk_any _ _ g l _ HG.out HN.out).mono ?_; rintro e w2 ⟨rfl, hb2⟩; have hbx := (BX.out.keep hb2).cell)
  have HMC := Lib.hid (fun v w h => by
    have := specManyEdges_any v _ HF.out w h
    rw [Hml.out] at this
    exact this)
  have HG2 := Lib.hid (HG.out.below hb2)
  have HN2 := Lib.hid (HN.out.below hb2)
  have HB2 := Lib.hid (hbA.out.trans (hb2.mono hbA.out.size))
  clear hb2
  go_region_held3 (fun W => W.cell? ⟨w.heap.size, 0, none⟩ = some (.slice p g.length c))
    (first | go_keep | exact BWA.at' hbx | exact BWC.at' hbx | exact BWB.at' hbx)
    (first
      | (go_at_call 52; refine (specManyEdges_any _ g Hok.out.1 _ (by first | exact HG2.out.below BWC | exact HG2.out.below BWB | exact HG2.out.below (below_dN (Below.refl _ _) 1))).mono ?_; rintro e wA ⟨rfl, hbA1⟩; have BWA : Below w2.heap.size w2 wA := (by first | exact BWC.trans (hbA1.mono BWC.size) | exact BWB.trans (hbA1.mono BWB.size) | exact (below_dN (Below.refl _ _) 1).trans hbA1))
      | (go_at_call 52; refine (HMC.out _ _ (by first | exact (hs3.below hbA1).gr (by rw [Hml.out]; omega) | exact hs3.gr (by rw [Hml.out]; omega))).mono ?_; rintro e wC ⟨rfl, hbC⟩; have BWC : Below w2.heap.size w2 wC := (by first | exact BWA.trans (hbC.mono BWA.size) | exact BWB.trans (hbC.mono BWB.size)))
      | (go_at_call 47; refine (l7Fill_any _ _ g l Hok.out.1 Hok.out.2 _ (by first | exact HG2.out.below BWA | exact HG2.out.below (below_dN (Below.refl _ _) 1)) (by first | exact HN2.out.below BWA | exact HN2.out.below (below_dN (Below.refl _ _) 1))).mono ?_; rintro e w3 ⟨u3, rfl, hs3, hb3⟩; have BWB : Below w2.heap.size w2 w3 := (by first | exact BWA.trans (hb3.mono BWA.size) | exact (below_dN (Below.refl _ _) 1).trans hb3)))
  all_goals go_wp2
  all_goals go_ret
  all_goals first
    | exact ⟨_, rfl, by rw [← hz.out, IntKind.wrap_i64]; omega, HB2.out.trans (BWC.mono HB2.out.size)⟩
    | exact ⟨_, rfl, by rw [← hz.out, IntKind.wrap_i64]; omega, HB2.out.trans (BWA.mono HB2.out.size)⟩

set_option maxRecDepth 100000 in
set_option maxHeartbeats 2000000 in
theorem implFillMany_any (v lv : Value) (g : List (List Int)) (l : List Int) (w : World) (hg : Gr w v g) (hn : Nums w 2 .i64 lv l) (hT : Tab w) :
    Calls Tryd.prog 29 #[v, lv] w fun e w' => ∃ z, e = .returned (.int .i64 z) ∧ z = manyV g l ∧ Below w.heap.size w w' := by
  have hg0 := hg
  obtain ⟨u, rfl, hr⟩ := hg
  obtain ⟨p, c, rfl, _⟩ := hr.shape
  obtain ⟨lp, lc, rfl, _⟩ := id hn.shape
  have hbA := Lib.hid (below_alloc w (.cells #[.slice p g.length c] 27))
  have BX := Lib.hid (Box.new w (.slice p g.length c) 27)
  have HG := Lib.hid (hg0.below hbA.out)
  have HN := Lib.hid (hn.below hbA.out)
  have HT := Lib.hid (hT.keep hbA.out)
  have h0 := hbA.out.size
  clear hr hg0 hn hT
  by_cases hok : GOk g ∧ OrdOk g.length l
  case neg =>
    have hd := dec_false hok
    have hz : Hid (-1 = manyV g l) := Lib.hid (by unfold manyV; rw [hd]; rfl)
    have Hok := Lib.hid hok
    clear hok
    go_enter Tryd.func29, Tryd.ntmps29
    go_wp2_with (go_at_call 22; refine (implFillOf_any _ _ g l _ HG.out HN.out HT.out).mono ?_; rintro e w2 ⟨u2, gg, ok, rfl, hS, hd2, _, _, hb2⟩; obtain ⟨rfl, rfl⟩ := fill_no hS Hok.out; obtain ⟨p2, c2, rfl⟩ := hd2.shape)
    go_ret
    exact ⟨_, rfl, hz.out, (hbA.out.trans (hb2.mono hbA.out.size)).alloc (Nat.le_trans hbA.out.size hb2.size) _⟩
  have hd := dec_true hok
  have hz : Hid (((cntE (matG g.length (fillP (ofG g) (l.map Int.toNat) l.length)) g.length : Nat) : Int) - (cntE g g.length : Nat) = manyV g l) := Lib.hid (by unfold manyV; rw [hd]; rfl)
  have HF := Lib.hid (gok_fill hok.1 (l.map Int.toNat) l.length)
  have Hok := Lib.hid hok
  have c1 := cnt256 hok.1
  have c2 := cnt256 HF.out
  have hml := matG_length g.length (fillP (ofG g) (l.map Int.toNat) l.length)
  rw [hml] at c2
  have hle := hok.1.le
  have Hml := Lib.hid hml
  clear hok hml
  go_enter Tryd.func29, Tryd.ntmps29
  go_upto_region 4 with (go_at_call 22; refine (implFillOf_any _ _ g l _ HG.out HN.out HT.out).mono ?_; rintro e w2 ⟨u2, gg, ok, rfl, hS, hd2, _, _, hb2⟩; obtain ⟨rfl, rfl⟩ := fill_yes hS Hok.out; obtain ⟨p2, c2', rfl⟩ := hd2.shape; have hbx := (BX.out.keep hb2).cell)
  have HMC := Lib.hid (fun v w h => by
    have := implManyEdges_any v _ HF.out w h
    rw [Hml.out] at this
    exact this)
  have FV : Hid (∃ W2, W2 = w2.alloc (.cells #[.slice p2 (matG g.length (fillP (ofG g) (l.map Int.toNat) l.length)).length c2'] 27)) := Lib.hid ⟨_, rfl⟩
  obtain ⟨W2, hW2⟩ := FV.out
  have hd2' := hd2.below (below_alloc w2 (.cells #[.slice p2 (matG g.length (fillP (ofG g) (l.map Int.toNat) l.length)).length c2'] 27))
  have bb2 := hb2.alloc hb2.size (.cells #[.slice p2 (matG g.length (fillP (ofG g) (l.map Int.toNat) l.length)).length c2'] 27)
  have q1 := (below_alloc w2 (.cells #[.slice p2 (matG g.length (fillP (ofG g) (l.map Int.toNat) l.length)).length c2'] 27)).at' hbx
  have q2 := (Box.new w2 (.slice p2 (matG g.length (fillP (ofG g) (l.map Int.toNat) l.length)).length c2') 27).cell
  rw [← hW2] at hd2' bb2 q1 q2 ⊢
  have HG2 := Lib.hid (HG.out.below bb2)
  have HD2 : Hid (Gr W2 (.agg #[.slice p2 (matG g.length (fillP (ofG g) (l.map Int.toNat) l.length)).length c2']) (matG g.length (fillP (ofG g) (l.map Int.toNat) l.length))) := Lib.hid (hd2'.gr (by rw [Hml.out]; omega) (fun j hj => by have := gok_rows HF.out j; omega))
  have HB2 := Lib.hid (hbA.out.trans (bb2.mono hbA.out.size))
  clear hb2 hd2 hd2' bb2 hW2 hbx hS
  go_region_held3 (fun W => W.cell? ⟨w.heap.size, 0, none⟩ = some (.slice p g.length c) ∧ W.cell? ⟨w2.heap.size, 0, none⟩ = some (.slice p2 (matG g.length (fillP (ofG g) (l.map Int.toNat) l.length)).length c2'))
    (first | go_keep | exact ⟨BWA.at' q1, BWA.at' q2⟩ | exact ⟨BWC.at' q1, BWC.at' q2⟩)
    (first
      | (go_at_call 53; refine (implManyEdges_any _ g Hok.out.1 _ (by first | exact HG2.out.below BWC | exact HG2.out.below (below_dN (Below.refl _ _) 1))).mono ?_; rintro e wA ⟨rfl, hbA1⟩; have BWA : Below W2.heap.size W2 wA := (by first | exact BWC.trans (hbA1.mono BWC.size) | exact (below_dN (Below.refl _ _) 1).trans hbA1))
      | (go_at_call 53; refine (HMC.out _ _ (by first | exact HD2.out.below BWA | exact HD2.out.below (below_dN (Below.refl _ _) 1))).mono ?_; rintro e wC ⟨rfl, hbC⟩; have BWC : Below W2.heap.size W2 wC := (by first | exact BWA.trans (hbC.mono BWA.size) | exact (below_dN (Below.refl _ _) 1).trans hbC)))
  all_goals go_wp2
  all_goals go_ret
  all_goals first
    | exact ⟨_, rfl, by rw [← hz.out, IntKind.wrap_i64]; omega, HB2.out.trans (BWC.mono HB2.out.size)⟩
    | exact ⟨_, rfl, by rw [← hz.out, IntKind.wrap_i64]; omega, HB2.out.trans (BWA.mono HB2.out.size)⟩

/-- Whether an order fills nothing in: of both. -/
theorem specPerfectIn_any (v lv : Value) (g : List (List Int)) (l : List Int) (w : World) (hg : Gr w v g) (hn : Nums w 2 .i64 lv l) :
    Calls Tryd.prog 30 #[v, lv] w fun e w' => ∃ z, e = .returned (.bool z) ∧ z = decide (manyV g l = 0) ∧ Below w.heap.size w w' := by
  have hg0 := hg
  obtain ⟨u, rfl, hr⟩ := hg
  obtain ⟨p, c, rfl, _⟩ := hr.shape
  obtain ⟨lp, lc, rfl, _⟩ := id hn.shape
  have hbA := Lib.hid (below_alloc w (.cells #[.slice p g.length c] 27))
  have HG := Lib.hid (hg0.below hbA.out)
  have HN := Lib.hid (hn.below hbA.out)
  clear hr hg0 hn
  go_enter Tryd.func30, Tryd.ntmps30
  go_wp2_with (go_at_call 28; refine (specFillMany_any _ _ g l _ HG.out HN.out).mono ?_; rintro e w2 ⟨z, rfl, hz, hb2⟩; have HZ := Lib.hid hz; clear hz)
  go_ret
  exact ⟨_, rfl, by rw [← HZ.out]; rfl, hbA.out.trans (hb2.mono hbA.out.size)⟩
theorem implPerfectIn_any (v lv : Value) (g : List (List Int)) (l : List Int) (w : World) (hg : Gr w v g) (hn : Nums w 2 .i64 lv l) (hT : Tab w) :
    Calls Tryd.prog 31 #[v, lv] w fun e w' => ∃ z, e = .returned (.bool z) ∧ z = decide (manyV g l = 0) ∧ Below w.heap.size w w' := by
  have hg0 := hg
  obtain ⟨u, rfl, hr⟩ := hg
  obtain ⟨p, c, rfl, _⟩ := hr.shape
  obtain ⟨lp, lc, rfl, _⟩ := id hn.shape
  have hbA := Lib.hid (below_alloc w (.cells #[.slice p g.length c] 27))
  have HG := Lib.hid (hg0.below hbA.out)
  have HN := Lib.hid (hn.below hbA.out)
  have HT := Lib.hid (hT.keep hbA.out)
  clear hr hg0 hn hT
  go_enter Tryd.func31, Tryd.ntmps31
  go_wp2_with (go_at_call 29; refine (implFillMany_any _ _ g l _ HG.out HN.out HT.out).mono ?_; rintro e w2 ⟨z, rfl, hz, hb2⟩; have HZ := Lib.hid hz; clear hz)
  go_ret
  exact ⟨_, rfl, by rw [← HZ.out]; rfl, hbA.out.trans (hb2.mono hbA.out.size)⟩

end Go.Proofs.YtbdcolhmhbfdoaaDoor
