/- Walks: Renamed, of both. -/
import Derived.Test.YtbdcolhmhbfdoaaDoorRen
namespace Go.Proofs.YtbdcolhmhbfdoaaDoor
open Go.RowKit

theorem natInts_toNat {l : List Int} (h : ∀ x ∈ l, 0 ≤ x) : natInts (l.map Int.toNat) = l := by
  unfold natInts
  rw [List.map_map]
  conv => rhs; rw [← List.map_id l]
  exact List.map_congr_left fun x hx => Int.toNat_of_nonneg (h x hx)
theorem netL_len (g : List (List Int)) : (netL g).length = g.length := by simp [netL]
theorem netL_lt16 {g : List (List Int)} (h : GOk g) : ∀ s ∈ netL g, s < 65536 := netL_lt h
theorem sg_nil' (w : World) (base : Nat) : SG w base (.agg #[.slice none 0 0]) [] := ⟨_, [], rfl, rfl, World.ownsRow_nil _ _ _ _, fun j hj => by simp at hj⟩
theorem dg_nil' (w : World) (base : Nat) : DG w base (.agg #[.slice none 0 0]) [] := ⟨_, [], rfl, rfl, World.ownsRow_nil _ _ _ _, ⟨fun j hj => by simp at hj, fun i j hi => by simp at hi⟩⟩

set_option maxRecDepth 100000 in
set_option maxHeartbeats 2000000 in
theorem specRenamed_any (v lv : Value) (g : List (List Int)) (l : List Int) (w : World) (hg : Gr w v g) (hn : Nums w 2 .i64 lv l) :
    Calls Tryd.prog 12 #[v, lv] w fun e w' => ∃ (u : Value) (gg : List (List Int)) (ok : Bool), e = .returned (.tuple #[u, .bool ok]) ∧ RenS g l gg ok ∧ SG w' w.heap.size u gg ∧ gg.length ≤ 16 ∧ (∀ j, (row gg j).length ≤ 16) ∧ Below w.heap.size w w' := by
  have hg0 := hg
  obtain ⟨u, rfl, hr⟩ := hg
  obtain ⟨p, c, rfl, _⟩ := hr.shape
  obtain ⟨lp, lc, rfl, _⟩ := id hn.shape
  have hbA := Lib.hid (below_alloc2 w (.cells #[.slice p g.length c] 27) (.cells #[.slice none 0 0] 27))
  have BX := Lib.hid ((Box.new w (.slice p g.length c) 27).alloc (.cells #[.slice none 0 0] 27))
  have BN : Hid (Box ((w.alloc (.cells #[.slice p g.length c] 27)).alloc (.cells #[.slice none 0 0] 27)) (w.heap.size + 1) 27 (.slice none 0 0)) := by
    have := Box.new (w.alloc (.cells #[.slice p g.length c] 27)) (.slice none 0 0) 27
    rw [size_alloc] at this
    exact Lib.hid this
  have HG := Lib.hid (hg0.below hbA.out)
  have HN := Lib.hid (hn.below hbA.out)
  have h0 := hbA.out.size
  clear hr hg0 hn
  by_cases hok : GOk g ∧ OrdOk g.length l
  case neg =>
    have hd := dec_false hok
    have Hok := Lib.hid hok
    clear hok
    go_enter Tryd.func12, Tryd.ntmps12
    go_wp2_with (go_at_call 39; refine (specOrderOk_any _ _ g l _ HG.out HN.out).mono ?_; rintro e w2 ⟨rfl, hb2⟩; obtain ⟨nc, nf, nl, nB⟩ := BN.out.keep hb2)
    refine bodyPost_ret (v := .tuple #[.agg #[.slice none 0 0], .bool false]) (by simp [results, Tryd.results12, go_sem, nc]) rfl ⟨_, [], false, rfl, .inr ⟨rfl, rfl, Hok.out⟩, sg_nil' _ _, by simp, fun j => by simp [row], ?_⟩
    exact (hbA.out.trans (hb2.mono hbA.out.size)).setCell (by show w.heap.size ≤ w.heap.size + 1; omega) _
  have hd := dec_true hok
  have hle := hok.1.le
  have hll16 : l.length ≤ 16 := by have := hok.2.1; omega
  have Hok := Lib.hid hok
  have HE := Lib.hid (ordE_sym hok.1 hok.2)
  have HL := Lib.hid hok.2.2.1
  clear hok
  go_enter Tryd.func12, Tryd.ntmps12
  go_wp2_with (first
    | (go_at_call 39; refine (specOrderOk_any _ _ g l _ HG.out HN.out).mono ?_; rintro e w2 ⟨rfl, hb2⟩; have hbx := (BX.out.keep hb2).cell)
    | (go_at_call 40; refine (l2Of_any _ _ g l HL.out (by omega) HE.out _ (HG.out.below hb2) (HN.out.below hb2)).mono ?_; rintro e w3 ⟨u3, rfl, hs3, hb3⟩; obtain ⟨p3, c3, rfl⟩ := hs3.shape; obtain ⟨mc, mf, ml, mB⟩ := (BN.out.keep hb2).keep hb3))
  have hi2 : (indL g l).length = l.length := matG_length _ _
  have h2 := hb2.size
  rw [size_alloc, size_alloc] at h2
  refine bodyPost_ret (v := .tuple #[.agg #[.slice p3 (indL g l).length c3], .bool true]) (by simp [results, Tryd.results12, go_sem, mc]) rfl ⟨_, _, true, rfl, .inl ⟨rfl, Hok.out.1, Hok.out.2, rfl⟩, (hs3.setBox ⟨mc, mf, ml, mB⟩ _).base (by omega), by omega, fun j => Nat.le_trans (matG_row_le j) (by omega), ?_⟩
  exact ((hbA.out.trans (hb2.mono hbA.out.size)).trans (hb3.mono (by omega))).setCell (by show w.heap.size ≤ w.heap.size + 1; omega) _

set_option maxRecDepth 100000 in
set_option maxHeartbeats 2000000 in
theorem implRenamed_any (v lv : Value) (g : List (List Int)) (l : List Int) (w : World) (hg : Gr w v g) (hn : Nums w 2 .i64 lv l) (hT : Tab w) :
    Calls Tryd.prog 15 #[v, lv] w fun e w' => ∃ (u : Value) (gg : List (List Int)) (ok : Bool), e = .returned (.tuple #[u, .bool ok]) ∧ RenS g l gg ok ∧ DG w' w.heap.size u gg ∧ gg.length ≤ 16 ∧ (∀ j, (row gg j).length ≤ 16) ∧ Below w.heap.size w w' := by
  have hg0 := hg
  obtain ⟨u, rfl, hr⟩ := hg
  obtain ⟨p, c, rfl, _⟩ := hr.shape
  obtain ⟨lp, lc, rfl, _⟩ := id hn.shape
  have hbA := Lib.hid (below_alloc2 w (.cells #[.slice p g.length c] 27) (.cells #[.slice none 0 0] 27))
  have BX := Lib.hid ((Box.new w (.slice p g.length c) 27).alloc (.cells #[.slice none 0 0] 27))
  have BN : Hid (Box ((w.alloc (.cells #[.slice p g.length c] 27)).alloc (.cells #[.slice none 0 0] 27)) (w.heap.size + 1) 27 (.slice none 0 0)) := by
    have := Box.new (w.alloc (.cells #[.slice p g.length c] 27)) (.slice none 0 0) 27
    rw [size_alloc] at this
    exact Lib.hid this
  have HG := Lib.hid (hg0.below hbA.out)
  have HN := Lib.hid (hn.below hbA.out)
  have HT := Lib.hid (hT.keep hbA.out)
  have h0 := hbA.out.size
  clear hr hg0 hn hT
  by_cases hok : GOk g ∧ OrdOk g.length l
  case neg =>
    have hd := dec_false hok
    have Hok := Lib.hid hok
    clear hok
    go_enter Tryd.func15, Tryd.ntmps15
    go_wp2_with (go_at_call 42; refine (implOrderOk_any _ _ g l _ HG.out HN.out).mono ?_; rintro e w2 ⟨rfl, hb2⟩; obtain ⟨nc, nf, nl, nB⟩ := BN.out.keep hb2)
    refine bodyPost_ret (v := .tuple #[.agg #[.slice none 0 0], .bool false]) (by simp [results, Tryd.results15, go_sem, nc]) rfl ⟨_, [], false, rfl, .inr ⟨rfl, rfl, Hok.out⟩, dg_nil' _ _, by simp, fun j => by simp [row], ?_⟩
    exact (hbA.out.trans (hb2.mono hbA.out.size)).setCell (by show w.heap.size ≤ w.heap.size + 1; omega) _
  have hd := dec_true hok
  have hle := hok.1.le
  have hll16 : l.length ≤ 16 := by have := hok.2.1; omega
  have Hok := Lib.hid hok
  obtain ⟨ln, hln⟩ : ∃ ln, ln = l.map Int.toNat := ⟨_, rfl⟩
  have hlN : natInts ln = l := by rw [hln]; exact natInts_toNat fun x hx => (hok.2.2.1 x hx).1
  have hlnl := Lib.hid (show ln.length = l.length by rw [hln, List.length_map])
  have hln16 : ln.length ≤ 16 := by have := hlnl.out; omega
  have hlt : ∀ v ∈ ln, v < (netL g).length := fun v hv => by
    rw [hln] at hv
    obtain ⟨x, hx, rfl⟩ := List.mem_map.1 hv
    have := hok.2.2.1 x hx
    rw [netL_len]; omega
  have HLN := Lib.hid hlN
  have HLT := Lib.hid hlt
  clear hok hln hlN hlt
  go_enter Tryd.func15, Tryd.ntmps15
  go_wp2_with (first
    | (go_at_call 42; refine (implOrderOk_any _ _ g l _ HG.out HN.out).mono ?_; rintro e w2 ⟨rfl, hb2⟩; have hbx := (BX.out.keep hb2).cell)
    | (go_at_call 44; refine (netsOf_any _ g _ (HG.out.below hb2) Hok.out.1).mono ?_; rintro e w3 ⟨x, rfl, hown3, hb3⟩; have HX3 : Hid (Sl w3 73 x (netL g).length ((netL g).map u32v)) := Lib.hid (by rw [netL_len]; exact Sl.of_owns hown3 (by omega)); clear hown3)
    | (go_at_call 45; refine (narrow_any _ l _ ((HN.out.below hb2).below hb3)).mono ?_; rintro e w4 ⟨nv, rfl, hown4, hb4⟩; have HN4 : Hid (Nums w4 3 .i64 nv (natInts ln)) := Lib.hid (by rw [HLN.out]; exact Nums.of_owns hown4 rfl (by omega)); clear hown4)
    | (go_at_call 43; refine (induced_any _ _ (netL g) ln (by rw [netL_len]; exact hle) (netL_lt16 Hok.out.1) HLT.out (by omega) _ (HX3.out.below hb4) HN4.out).mono ?_; rintro e w5 ⟨u5, rfl, ho5, hb5⟩; have HX5 : Hid (Sl w5 73 u5 (indN ln.length (bitE (netL g) ln)).length ((indN ln.length (bitE (netL g) ln)).map u32v)) := Lib.hid (by rw [indN_length]; exact Sl.of_owns ho5 (by omega)); clear ho5)
    | (go_at_call 46; refine (graph_any _ (indN ln.length (bitE (netL g) ln)) (indN_lt16 (by omega)) (by rw [indN_length]; omega) _ HX5.out ((((HT.out.keep hb2).keep hb3).keep hb4).keep hb5)).mono ?_; rintro e w6 ⟨u6, rfl, hd6, hb6⟩; obtain ⟨p6, c6, rfl⟩ := hd6.shape; obtain ⟨mc, mf, ml, mB⟩ := ((((BN.out.keep hb2).keep hb3).keep hb4).keep hb5).keep hb6))
  have e6 : rowsOf (indN ln.length (bitE (netL g) ln)) = indL g l := by
    rw [rowsOf_indN (by omega), ← HLN.out, bitE_netL Hok.out.1 (fun v hv => by have := HLT.out v hv; rw [netL_len] at this; exact this)]
  have hi2 : (indL g l).length = ln.length := by unfold indL; rw [matG_length]; exact hlnl.out.symm
  have s2 := hb2.size
  rw [size_alloc, size_alloc] at s2
  have s3 := hb3.size
  have s4 := hb4.size
  have s5 := hb5.size
  rw [e6, hi2] at hd6
  refine bodyPost_ret (v := .tuple #[.agg #[.slice p6 ln.length c6], .bool true]) (by simp [results, Tryd.results15, go_sem, mc, rowsOf_length, indN_length]) rfl ⟨_, _, true, rfl, .inl ⟨rfl, Hok.out.1, Hok.out.2, rfl⟩, (hd6.setBox ⟨mc, mf, ml, mB⟩ _).base (by omega), by omega, fun j => Nat.le_trans (matG_row_le j) (by omega), ?_⟩
  exact (((((hbA.out.trans (hb2.mono h0)).trans (hb3.mono (by omega))).trans (hb4.mono (by omega))).trans (hb5.mono (by omega))).trans (hb6.mono (by omega))).setCell (by show w.heap.size ≤ w.heap.size + 1; omega) _

end Go.Proofs.YtbdcolhmhbfdoaaDoor
