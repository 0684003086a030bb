/- Walk: the law FnExactPermsOk. -/
import Derived.Test.YtbdcolhmhbfdoaaDoorLawsG
import Derived.Test.YtbdcolhmhbfdoaaDoorPermE
namespace Go.Proofs.YtbdcolhmhbfdoaaDoor
open Go.RowKit

set_option maxRecDepth 100000 in
set_option maxHeartbeats 4000000 in
theorem lawPermsOk_any (v av bv : Value) (g : List (List Int)) (a b : List Int) (w : World) (hg : ArgG w v g) (ha : ArgN w av a) (hb : ArgN w bv b) (hT : Tab w) :
    Calls Tryd.prog 10 #[v, av, bv] w fun e w' => e = .returned (.bool true) ∧ Below w.heap.size w w' := by
  have hg0 := hg
  obtain ⟨u, rfl, hr⟩ := hg
  obtain ⟨p, c, vals, rfl, _⟩ := hr
  have ha0 := ha
  have hb0 := hb
  obtain ⟨ap, ac, rfl, ha63, _⟩ := ha
  obtain ⟨bp, bc, rfl, hb63, _⟩ := hb
  have hbA := Lib.hid (below_alloc w (.cells #[.slice p g.length c] 24))
  have BX := Lib.hid (Box.new w (.slice p g.length c) 24)
  have HG := Lib.hid hg0
  have HT := Lib.hid hT
  have HA := Lib.hid ha0
  have HB := Lib.hid hb0
  clear hg0 hT ha0 hb0
  by_cases hl20 : 1048576 < (a.length : Int)
  · have HbA := hbA.out
    go_enter Tryd.func10, Tryd.ntmps10
    go_wp2
    go_ret
    exact ⟨rfl, HbA⟩
  by_cases hl30 : 1048576 < (b.length : Int)
  · have HbA := hbA.out
    go_enter Tryd.func10, Tryd.ntmps10
    go_wp2
    go_ret
    exact ⟨rfl, HbA⟩
  have hl21 : a.length ≤ 1048576 := by omega
  have hl31 : b.length ≤ 1048576 := by omega
  go_enter Tryd.func10, Tryd.ntmps10
  go_upto_region 7 with (go_at_call 11; refine (szGraph_any _ g 1048576 (by decide) (by decide) _ (HG.out.below hbA.out)).mono ?_; rintro e w2 ⟨⟨z, rfl, hz1, hz2, hz3⟩, hb2⟩)
  have HB2 := Lib.hid (hbA.out.trans (hb2.mono hbA.out.size))
  have BX2 := Lib.hid (BX.out.keep hb2)
  obtain ⟨bc2, _, bl2, _⟩ := BX2.out
  clear hb2
  by_cases hz : z < 0
  · clear hz3
    go_wp2
    go_ret
    exact ⟨rfl, HB2.out⟩
  obtain ⟨hl1, hl2⟩ := hz3 (by omega)
  have L1 : g.length ≤ 1048576 := by omega
  have L2 := Lib.hid (show ∀ j, j < g.length → (row g j).length ≤ 1048576 from fun j hj => by have := hl2 j hj; omega)
  clear hl1 hl2 hz3
  go_upto_region 14 with (first
    | (go_at_call 37; refine (implPermsOk_any _ _ _ g a b _ (((HX5.out.below hb5i).below hb5j).own.gr (by omega) (fun j hj => by have := L2.out j hj; omega)) (Nums.of_owns (ownsRow_below HXI.out hb5j) rfl (by omega)) (Nums.of_owns HXJ.out rfl (by omega)) (HT.out.keep HB5j.out)).mono ?_; rintro e w6 ⟨rfl, hb6⟩)
    | (go_at_call 14; refine (toInt64S_any _ b hl31 _ (HB.out.below HB5i.out)).mono ?_; rintro e w5j ⟨xj, rfl, ⟨xjb, xjc, rfl⟩, ho5j, hb5j⟩; have HXJ := Lib.hid ho5j; have HB5j := Lib.hid (HB5i.out.trans (hb5j.mono HB5i.out.size)); have q5j := ((Box.keep BX5.out hb5i).keep hb5j).cell)
    | (go_at_call 14; refine (toInt64S_any _ a hl21 _ (HA.out.below HB5.out)).mono ?_; rintro e w5i ⟨xi, rfl, ⟨xib, xic, rfl⟩, ho5i, hb5i⟩; have HXI := Lib.hid ho5i; have HB5i := Lib.hid (HB5.out.trans (hb5i.mono HB5.out.size)))
    | (go_at_call 13; refine (toGraph_any _ g L1 L2.out _ (HG.out.below HB4.out)).mono ?_; rintro e w5 ⟨x0, rfl, ho5, hb5⟩; obtain ⟨x0p, x0c, rfl⟩ := ho5.shape; have BX5 := Lib.hid (Box.new w5 (.slice x0p g.length x0c) 27); have HX5 := Lib.hid ((InG.of_own ho5).below (below_alloc w5 (.cells #[.slice x0p g.length x0c] 27))); have HB5 := Lib.hid ((HB4.out.trans (hb5.mono HB4.out.size)).alloc (Nat.le_trans HB4.out.size hb5.size) (.cells #[.slice x0p g.length x0c] 27)); clear ho5)
    | (go_at_call 36; refine (specPermsOk_any _ _ _ g a b _ (((ho3.below hb3i).below hb3j).gr (by omega) (fun j hj => by have := L2.out j hj; omega)) (Nums.of_owns (ownsRow_below ho3i hb3j) rfl (by omega)) (Nums.of_owns ho3j rfl (by omega))).mono ?_; rintro e w4 ⟨rfl, hb4⟩; have BX4 := Lib.hid ((((BX2.out.keep hb3).keep hb3i).keep hb3j).keep hb4); have bc4 := BX4.out.cell; have HB4 := Lib.hid (HB3j.out.trans (hb4.mono HB3j.out.size)))
    | (go_at_call 14; refine (toInt64S_any _ b hl31 _ (HB.out.below HB3i.out)).mono ?_; rintro e w3j ⟨yj, rfl, ⟨yjb, yjc, rfl⟩, ho3j, hb3j⟩; have HB3j := Lib.hid (HB3i.out.trans (hb3j.mono HB3i.out.size)))
    | (go_at_call 14; refine (toInt64S_any _ a hl21 _ ((HA.out.below HB2.out).below hb3)).mono ?_; rintro e w3i ⟨yi, rfl, ⟨yib, yic, rfl⟩, ho3i, hb3i⟩; have HB3i := Lib.hid ((HB2.out.trans (hb3.mono HB2.out.size)).trans (hb3i.mono (Nat.le_trans HB2.out.size hb3.size))))
    | (go_at_call 13; refine (toGraph_any _ g L1 L2.out _ (HG.out.below HB2.out)).mono ?_; rintro e w3 ⟨y0, rfl, ho3, hb3⟩; obtain ⟨y0p, y0c, rfl⟩ := ho3.shape))
  have s5 := hb5.size
  have s5i := hb5i.size
  rw [size_alloc] at s5i
  have s5j := hb5j.size
  have s6 := hb6.size
  have lA' : w.heap.size < w4.heap.size := BX4.out.lt
  have hb56 := ((hb5.alloc s5 (.cells #[.slice x0p g.length x0c] 27)).trans (hb5i.mono (by rw [size_alloc]; omega))).trans (hb5j.mono (by omega))
  have YB6 := Lib.hid (hb56.trans (hb6.mono (by omega)))
  have B6 := Lib.hid ((((Box.new w5 (.slice x0p g.length x0c) 27).keep hb5i).keep hb5j).keep hb6)
  have XI6 := Lib.hid (ownsRow_below (ownsRow_below HXI.out hb5j) hb6)
  have XJ6 := Lib.hid (ownsRow_below HXJ.out hb6)
  have X6 := Lib.hid (((HX5.out.below hb5i).below hb5j).below hb6)
  clear hb3 hb3i hb3j hb4 hb5 hb5i hb5j hb56 hb6 ho3 ho3i ho3j ho5i ho5j bc2 bl2 bc4 q5j
  generalize hzz : dec (PmOk g a b) = zz
  have hbb : (zz != zz) = false := by simp
  clear hzz
  go_upto_region 16 with fail
  have q6 := B6.out.cell
  have q1 := (BX4.out.below YB6.out lA').cell
  go_cut [48] (fun s45 wx => s45 = .bool false ∧ Below w6.heap.size w6 wx)
  case first =>
    go_region_held3 (fun W => W.cell? ⟨w5.heap.size, 0, none⟩ = some (.slice x0p g.length x0c) ∧ W.cell? ⟨w.heap.size, 0, none⟩ = some (.slice p g.length c))
      (first | go_keep | exact ⟨hb8'.at' q6, hb8'.at' q1⟩ | exact ⟨hb9'.at' q6, hb9'.at' q1⟩)
      (first | (go_at_call 13; refine (toGraph_any _ g L1 L2.out _ (HG.out.below (below_dN (HB4.out.trans (YB6.out.mono HB4.out.size)) 1))).mono ?_; rintro e w9 ⟨x0', rfl, ho8, hb9⟩; obtain ⟨x0p', x0c', rfl⟩ := ho8.shape; have hb8' : Below w6.heap.size w6 w9 := (below_dN (Below.refl _ _) 1).trans hb9) | (go_at_call 16; refine (eqGraph_b _ _ g _ ((X6.out.below hb8').own.gr (by omega) (fun j hj => by have := L2.out j hj; omega)) (ho8.gr (by omega) (fun j hj => by have := L2.out j hj; omega))).mono ?_; rintro e w9x ⟨rfl, hb9x⟩; have hb9' : Below w6.heap.size w6 w9x := hb8'.trans (hb9x.mono hb8'.size)))
    all_goals go_wp2
    all_goals go_meet
    all_goals exact ⟨rfl, hb9'⟩
  case rest =>
    obtain ⟨rfl, hbc⟩ := hcut
    have sc := hbc.size
    have YBc := Lib.hid (YB6.out.trans (hbc.mono YB6.out.size))
    have XIc := Lib.hid (ownsRow_below XI6.out hbc)
    have XJc := Lib.hid (ownsRow_below XJ6.out hbc)
    have HBc := Lib.hid (HB4.out.trans (YBc.out.mono HB4.out.size))
    clear hbc q1 q6
    go_wp2_with (first
      | (go_at_call 17; refine (eqInt64S_b _ _ b b rfl _ (Nums.of_owns (ownsRow_below (ownsRow_below XJc.out hbij) hbk) rfl (by omega)) (Nums.of_owns hok rfl (by omega))).mono ?_; rintro e wl ⟨rfl, hbl⟩)
      | (go_at_call 14; refine (toInt64S_any _ b hl31 _ ((HB.out.below HBc.out).below hbij)).mono ?_; rintro e wk ⟨zk, rfl, ⟨zkb, zkc, rfl⟩, hok, hbk⟩)
      | (go_at_call 17; refine (eqInt64S_b _ _ a a rfl _ (Nums.of_owns (ownsRow_below XIc.out hbi) rfl (by omega)) (Nums.of_owns hoi rfl (by omega))).mono ?_; rintro e wj ⟨rfl, hbj⟩; have hbij := hbi.trans (hbj.mono hbi.size))
      | (go_at_call 14; refine (toInt64S_any _ a hl21 _ (HA.out.below HBc.out)).mono ?_; rintro e wi ⟨zi, rfl, ⟨zib, zic, rfl⟩, hoi, hbi⟩))
    go_ret
    exact ⟨rfl, HBc.out.trans (((hbij.trans (hbk.mono hbij.size)).trans (hbl.mono (Nat.le_trans hbij.size hbk.size))).mono HBc.out.size)⟩

end Go.Proofs.YtbdcolhmhbfdoaaDoor
