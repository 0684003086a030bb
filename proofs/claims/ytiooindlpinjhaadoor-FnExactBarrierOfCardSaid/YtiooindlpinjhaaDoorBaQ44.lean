/- Small laws on what a law's walk compares. -/
import Derived.Test.YtiooindlpinjhaaDoorBaQ43
import Derived.Test.YtiooindlpinjhaaDoorBaQ41
import Derived.Test.YtiooindlpinjhaaDoorBaQ42
namespace Go.Proofs.YtiooindlpinjhaaDoor
open Go.RowKit

theorem OwnG.shape {w : World} {base : Nat} {v : Value} {g : List (List Int)} (h : OwnG w base v g) : ∃ p c, v = .agg #[.slice p g.length c] := by
  obtain ⟨u, rfl, vals, _, h2, _⟩ := h
  rcases h2.2 with ⟨rfl, h0⟩ | ⟨b, c, _, rfl, _⟩
  · exact ⟨none, 0, by rw [h0]⟩
  · exact ⟨_, _, rfl⟩
theorem owns_shape {w : World} {base : Nat} {E : TypeId} {size n : Nat} {v : Value} {xs : List Value} (h : w.ownsRow base E size v n xs) : ∃ p c, v = .slice p n c := by
  rcases h.2 with ⟨rfl, rfl⟩ | ⟨b, c, _, rfl, _⟩
  · exact ⟨none, 0, rfl⟩
  · exact ⟨_, _, rfl⟩
theorem eqInt64S_b (u v : Value) (xs ys : List Int) (h : xs = ys) (w : World) (hx : Nums w 2 .i64 u xs) (hy : Nums w 2 .i64 v ys) :
    Calls Tryd.prog 11 #[u, v] w fun e w' => e = .returned (.bool true) ∧ Below w.heap.size w w' :=
  (eqInt64S_any u v xs ys w hx hy).mono fun e w' ⟨he, q, hq⟩ => by
    subst hq
    rw [dec_true h] at he
    exact ⟨he, below_dN (Below.refl _ _) q⟩
theorem eqGraph_b (u v : Value) (g : List (List Int)) (w : World) (hx : Gr w u g) (hy : Gr w v g) :
    Calls Tryd.prog 12 #[u, v] w fun e w' => e = .returned (.bool true) ∧ Below w.heap.size w w' :=
  (eqGraph_any u v g g w hx hy).mono fun e w' ⟨he, hb⟩ => by
    rw [dec_true rfl] at he
    exact ⟨he, hb⟩

end Go.Proofs.YtiooindlpinjhaaDoor

/- Walk: the law FnExactBarrierOf. -/
namespace Go.Proofs.YtiooindlpinjhaaDoor
open Go.RowKit

set_option maxRecDepth 100000 in
set_option maxHeartbeats 4000000 in
theorem lawBarrierOf_any (v : Value) (g : List (List Int)) (w : World) (hg : ArgG w v g) (hT : Tab w) :
    Calls Tryd.prog 3 #[v] w fun e w' => e = .returned (.bool true) ∧ Below w.heap.size w w' := by
  have hg0 := hg
  obtain ⟨u, rfl, hr⟩ := hg
  obtain ⟨p, c, vals, rfl, _⟩ := hr
  have hbA := Lib.hid (below_alloc w (.cells #[.slice p g.length c] 24))
  have BX := Lib.hid (Box.new w (.slice p g.length c) 24)
  have HA := Lib.hid hg0
  have HT := Lib.hid hT
  clear hg0 hT
  go_enter Tryd.func3, Tryd.ntmps3
  go_upto_region 3 with (go_at_call 7; refine (szGraph_any _ g 1048576 (by decide) (by decide) _ (HA.out.below hbA.out)).mono ?_; rintro e w2 ⟨⟨z, rfl, hz1, hz2, hz3⟩, hb2⟩)
  have HB2 := Lib.hid (hbA.out.trans (hb2.mono hbA.out.size))
  have BX2 := Lib.hid (BX.out.keep hb2)
  obtain ⟨bc2, _, bl2, _⟩ := BX2.out
  clear hb2
  by_cases hz : z < 0
  · clear hz3
    go_wp2
    go_ret
    exact ⟨rfl, HB2.out⟩
  obtain ⟨hl1, hl2⟩ := hz3 (by omega)
  have L1 : g.length ≤ 1048576 := by omega
  have L2 := Lib.hid (show ∀ j, j < g.length → (row g j).length ≤ 1048576 from fun j hj => by have := hl2 j hj; omega)
  clear hl1 hl2 hz3
  go_upto_region 8 with (first
    | (go_at_call 10; refine (implBarrierOf_any _ g _ (HX5.out.own.gr (by omega) (fun j hj => by have := L2.out j hj; omega)) (HT.out.keep HB5.out)).mono ?_; rintro e w6 ⟨x1, xs, rfl, hS6, hx16, ho6, hb6⟩; have HS6 := Lib.hid hS6; have HO6 := Lib.hid ho6; obtain ⟨x1p, x1c, rfl⟩ := owns_shape ho6; clear hS6 ho6)
    | (go_at_call 9; refine (toGraph_any _ g L1 L2.out _ (HA.out.below HB4.out)).mono ?_; rintro e w5 ⟨x0, rfl, ho5, hb5⟩; obtain ⟨x0p, x0c, rfl⟩ := ho5.shape; have HX5 := Lib.hid ((InG.of_own ho5).below (below_alloc w5 (.cells #[.slice x0p g.length x0c] 28))); have HB5 := Lib.hid ((HB4.out.trans (hb5.mono HB4.out.size)).alloc (Nat.le_trans HB4.out.size hb5.size) (.cells #[.slice x0p g.length x0c] 28)); clear ho5)
    | (go_at_call 8; refine (specBarrierOf_any _ g _ (ho3.gr (by omega) (fun j hj => by have := L2.out j hj; omega))).mono ?_; rintro e w4 ⟨y1, ys, rfl, hS4, hy16, ho4, hb4⟩; have HS4 := Lib.hid hS4; have HO4 := Lib.hid ho4; obtain ⟨y1p, y1c, rfl⟩ := owns_shape ho4; have HB4 := Lib.hid ((HB2.out.trans (hb3.mono HB2.out.size)).trans (hb4.mono (Nat.le_trans HB2.out.size hb3.size))); have BX4 := Lib.hid ((BX2.out.keep hb3).keep hb4); have bc4 := BX4.out.cell; clear hS4 ho4)
    | (go_at_call 9; refine (toGraph_any _ g L1 L2.out _ (HA.out.below HB2.out)).mono ?_; rintro e w3 ⟨y0, rfl, ho3, hb3⟩; obtain ⟨y0p, y0c, rfl⟩ := ho3.shape))
  have hxy := barS_det HS6.out HS4.out
  subst hxy
  have sA := hbA.out.size
  rw [size_alloc] at sA
  have s2 := HB2.out.size
  have s3 := hb3.size
  have s4 := hb4.size
  have s5 := hb5.size
  have s6 := hb6.size
  rw [size_alloc] at s6
  have HB6 := Lib.hid (HB5.out.trans (hb6.mono HB5.out.size))
  have B6 := Lib.hid ((Box.new w5 (.slice x0p g.length x0c) 28).keep hb6)
  have A6 := Lib.hid ((BX4.out.keep hb5).keep (below_alloc w5 (.cells #[.slice x0p g.length x0c] 28)) |>.keep hb6)
  have X6 := Lib.hid (HX5.out.below hb6)
  have Y6 := Lib.hid (ownsRow_below (ownsRow_below (ownsRow_below HO4.out hb5) (below_alloc w5 (.cells #[.slice x0p g.length x0c] 28))) hb6)
  clear hb3 hb4 hb5 hb6 ho3 bc2 bl2 bc4
  go_upto_region 10 with (go_at_call 11; refine (eqInt64S_b _ _ xs xs rfl _ (Nums.of_owns HO6.out rfl (by omega)) (Nums.of_owns Y6.out rfl (by omega))).mono ?_; rintro e w7 ⟨rfl, hb7⟩)
  have HB7 := Lib.hid (HB6.out.trans (hb7.mono HB6.out.size))
  have B7 := Lib.hid (B6.out.keep hb7)
  have A7 := Lib.hid (A6.out.keep hb7)
  have X7 := Lib.hid (X6.out.below hb7)
  have Y7 := Lib.hid (ownsRow_below Y6.out hb7)
  have O7 := Lib.hid (ownsRow_below HO6.out hb7)
  have q6 := B7.out.cell
  have q1 := A7.out.cell
  have s7 := hb7.size
  clear hb7
  go_cut [31] (fun s31 wx => s31 = .bool false ∧ Below w7.heap.size w7 wx)
  case first =>
    go_region_held3 (fun W => W.cell? ⟨w5.heap.size, 0, none⟩ = some (.slice x0p g.length x0c) ∧ W.cell? ⟨w.heap.size, 0, none⟩ = some (.slice p g.length c))
      (first | go_keep | exact ⟨hb8'.at' q6, hb8'.at' q1⟩ | exact ⟨hb9'.at' q6, hb9'.at' q1⟩)
      (first | (go_at_call 9; refine (toGraph_any _ g L1 L2.out _ (HA.out.below (below_dN HB7.out 1))).mono ?_; rintro e w8 ⟨x0', rfl, ho8, hb8⟩; obtain ⟨x0p', x0c', rfl⟩ := ho8.shape; have hb8' : Below w7.heap.size w7 w8 := (below_dN (Below.refl _ _) 1).trans hb8) | (go_at_call 12; refine (eqGraph_b _ _ g _ ((X7.out.below hb8').own.gr (by omega) (fun j hj => by have := L2.out j hj; omega)) (ho8.gr (by omega) (fun j hj => by have := L2.out j hj; omega))).mono ?_; rintro e w9 ⟨rfl, hb9⟩; have hb9' : Below w7.heap.size w7 w9 := hb8'.trans (hb9.mono hb8'.size)))
    all_goals go_wp2
    all_goals go_meet
    all_goals exact ⟨rfl, hb9'⟩
  case rest =>
    obtain ⟨rfl, hbc⟩ := hcut
    have sc := hbc.size
    have HBc := Lib.hid (HB7.out.trans (hbc.mono HB7.out.size))
    have Xc := Lib.hid (X7.out.below hbc)
    have Yc := Lib.hid (ownsRow_below Y7.out hbc)
    have Oc := Lib.hid (ownsRow_below O7.out hbc)
    have Ac := Lib.hid (A7.out.keep hbc)
    have bc := (B7.out.keep hbc).cell
    clear hbc
    go_upto_region 14 with (go_at_call 13; refine (markGraph_any _ g w4.heap.size w5.heap.size 1 L1 L2.out (by decide) (by decide) _ Xc.out).mono ?_; rintro e w10 ⟨⟨z2, rfl, hz2⟩, hap⟩)
    have sp := hap.size
    have l2 := BX2.out.lt
    have HBp := Lib.hid (HBc.out.trans ((hap.below (by omega)).mono (show w.heap.size ≤ w4.heap.size by omega)))
    have Yp := Lib.hid (ownsRow_apart_lo Yc.out hap (fun k hk => (HO4.out.lt k hk).2))
    have Op := Lib.hid (ownsRow_apart_hi Oc.out hap (by rw [size_alloc]; omega))
    have Ap := Lib.hid (Ac.out.below (hap.below (by omega)) (by omega))
    have z2n : ¬ z2 < 0 := by omega
    have ap := Ap.out.cell
    clear hap
    go_upto_region 17 with (go_at_call 11; refine (eqInt64S_b _ _ xs xs rfl _ (Nums.of_owns Op.out rfl (by omega)) (Nums.of_owns Yp.out rfl (by omega))).mono ?_; rintro e w11 ⟨rfl, hb11⟩)
    have HB11 := Lib.hid (HBp.out.trans (hb11.mono HBp.out.size))
    have Y11 := Lib.hid (ownsRow_below Yp.out hb11)
    have O11 := Lib.hid (ownsRow_below Op.out hb11)
    have A11 := Lib.hid (Ap.out.keep hb11)
    have s11 := hb11.size
    clear hb11
    go_upto_region 18 with (go_at_call 14; refine (markInt64S_any _ xs.length _ _ 1 (by omega) (by decide) (by decide) _ O11.out).mono ?_; rintro e w12 ⟨rfl, ho12, hg12, _⟩)
    have hb12 := below_grown (Below.refl (w5.alloc (.cells #[.slice x0p g.length x0c] 28)).heap.size w11) O11.out hg12 (Nat.le_refl _) (by rw [size_alloc]; omega)
    have s12 := hb12.size
    have HB12 := Lib.hid (HB11.out.trans (hb12.mono (by rw [size_alloc]; omega)))
    have A12 := Lib.hid (A11.out.below hb12 (by rw [size_alloc]; omega))
    have Y12 := Lib.hid (ownsRow_apart_lo (lo := w4.heap.size) (hi := w11.heap.size) Y11.out (Apart.of_grown O11.out hg12 (by rw [size_alloc]; omega) (fun k hk => (O11.out.lt k hk).2)) (fun k hk => (HO4.out.lt k hk).2))
    have O12 := Lib.hid ho12
    have N12 := Lib.hid (Nums.of_owns (xs := marks 1 xs.length) ho12 (marks_length _ _).symm (by omega))
    have q12 := A12.out.cell
    have hn1 : ¬ (1 + (xs.length : Int)) < 0 := by omega
    clear ho12 hg12 hb12
    go_wp2_with (first
      | (go_at_call 15; refine (heldInt64S_any _ xs.length 1 (by decide) (by decide) _ N16.out).mono ?_; rintro e w17 ⟨rfl, rfl⟩)
      | (go_at_call 11; refine (eqInt64S_b _ _ xs xs rfl _ X15.out (Y12.out |> fun h => Nums.of_owns (ownsRow_below (ownsRow_below h hb14) hb15) rfl (by omega))).mono ?_; rintro e w16 ⟨rfl, hb16⟩; have N16 := Lib.hid (((N12.out.below hb14).below hb15).below hb16))
      | (go_at_call 10; refine (implBarrierOf_any _ g _ (ho14.gr (by omega) (fun j hj => by have := L2.out j hj; omega)) ((HT.out.keep HB12.out).keep hb14)).mono ?_; rintro e w15 ⟨x2, zs, rfl, hS15, hz16, ho15, hb15⟩; have hzs := barS_det hS15 HS6.out; rw [hzs] at ho15; obtain ⟨x2p, x2c, rfl⟩ := owns_shape ho15; have X15 := Lib.hid (Nums.of_owns ho15 rfl (by omega)); clear hS15 ho15 hzs)
      | (go_at_call 9; refine (toGraph_any _ g L1 L2.out _ (HA.out.below HB12.out)).mono ?_; rintro e w14 ⟨y14, rfl, ho14, hb14⟩; obtain ⟨y14p, y14c, rfl⟩ := ho14.shape)
      | (go_at_call 15; refine (heldInt64S_any _ xs.length 1 (by decide) (by decide) _ N12.out).mono ?_; rintro e w13 ⟨rfl, rfl⟩))
    go_ret
    have hx := (hb14.trans (hb15.mono hb14.size)).trans (hb16.mono (Nat.le_trans hb14.size hb15.size))
    exact ⟨rfl, HB12.out.trans (hx.mono HB12.out.size)⟩

end Go.Proofs.YtiooindlpinjhaaDoor
