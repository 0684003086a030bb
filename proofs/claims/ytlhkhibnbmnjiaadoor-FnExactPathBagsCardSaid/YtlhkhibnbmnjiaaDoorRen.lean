/- Walks: the orders of a graph's vertices, of both; Renamed, of both. -/
import Derived.Test.YtlhkhibnbmnjiaaDoorOrdW
import Derived.Test.YtlhkhibnbmnjiaaDoorImplG
namespace Go.Proofs.YtlhkhibnbmnjiaaDoor
open Go.RowKit

set_option maxRecDepth 100000 in
set_option maxHeartbeats 1000000 in
theorem specOrderOk_any (v lv : Value) (g : List (List Int)) (l : List Int) (w : World) (hg : Gr w v g) (hn : Nums w 2 .i64 lv l) :
    Calls Tryd.prog 18 #[v, lv] w fun e w' => e = .returned (.bool (dec (GOk g ∧ OrdOk g.length l))) ∧ Below w.heap.size w w' := by
  have hg0 := hg
  obtain ⟨u, rfl, hr⟩ := hg
  obtain ⟨p, c, rfl, _, _, hgl⟩ := hr.shape
  obtain ⟨lp, lc, rfl, _⟩ := id hn.shape
  have hbA := Lib.hid (below_alloc w (.cells #[.slice p g.length c] 28))
  have BX := Lib.hid (Box.new w (.slice p g.length c) 28)
  have HG := Lib.hid (hg0.below hbA.out)
  have HN := Lib.hid (hn.below hbA.out)
  clear hr hg0 hn
  by_cases hok : GOk g
  · have hd := dec_true hok
    have Hok := Lib.hid hok
    clear hok
    go_enter Tryd.func18, Tryd.ntmps18
    go_wp2_with (first
      | (go_at_call 32; refine (l1Order_any _ _ g l hgl _ (HG.out.below hb2) (HN.out.below hb2)).mono ?_; rintro e w3 ⟨rfl, hb3⟩)
      | (go_at_call 17; refine (specGraphOk_any _ g _ HG.out).mono ?_; rintro e w2 ⟨rfl, hb2⟩; have hbx := (BX.out.keep hb2).cell))
    go_ret
    exact ⟨ret_bool (dec_congr ⟨fun h => ⟨Hok.out, h⟩, fun h => h.2⟩), (hbA.out.trans (hb2.mono hbA.out.size)).trans (hb3.mono (Nat.le_trans hbA.out.size hb2.size))⟩
  · have hd := dec_false hok
    have Hok := Lib.hid hok
    clear hok
    go_enter Tryd.func18, Tryd.ntmps18
    go_wp2_with (go_at_call 17; refine (specGraphOk_any _ g _ HG.out).mono ?_; rintro e w2 ⟨rfl, hb2⟩)
    go_ret
    exact ⟨ret_bool (false_dec fun h => Hok.out h.1), hbA.out.trans (hb2.mono hbA.out.size)⟩

set_option maxRecDepth 100000 in
set_option maxHeartbeats 1000000 in
theorem implOrderOk_any (v lv : Value) (g : List (List Int)) (l : List Int) (w : World) (hg : Gr w v g) (hn : Nums w 2 .i64 lv l) :
    Calls Tryd.prog 21 #[v, lv] w fun e w' => e = .returned (.bool (dec (GOk g ∧ OrdOk g.length l))) ∧ Below w.heap.size w w' := by
  have hg0 := hg
  obtain ⟨u, rfl, hr⟩ := hg
  obtain ⟨p, c, rfl, _, _, hgl⟩ := hr.shape
  obtain ⟨lp, lc, rfl, _, _, hll, _⟩ := id hn.shape
  have hbA := Lib.hid (below_alloc w (.cells #[.slice p g.length c] 28))
  have BX := Lib.hid (Box.new w (.slice p g.length c) 28)
  have HG := Lib.hid (hg0.below hbA.out)
  have HN := Lib.hid (hn.below hbA.out)
  clear hr hg0 hn
  by_cases hok : GOk g
  case neg =>
    have hd := dec_false hok
    have Hok := Lib.hid hok
    clear hok
    go_enter Tryd.func21, Tryd.ntmps21
    go_wp2_with (go_at_call 35; refine (implGraphOk_any _ g _ HG.out).mono ?_; rintro e w2 ⟨rfl, hb2⟩)
    go_ret
    exact ⟨ret_bool (false_dec fun h => Hok.out h.1), hbA.out.trans (hb2.mono hbA.out.size)⟩
  have hd := dec_true hok
  have Hok := Lib.hid hok
  clear hok
  by_cases hlen : l.length = g.length
  case neg =>
    have hne : ((l.length : Int) != (g.length : Int)) = true := by simp; omega
    have Hlen := Lib.hid hlen
    clear hlen
    go_enter Tryd.func21, Tryd.ntmps21
    go_wp2_with (go_at_call 35; refine (implGraphOk_any _ g _ HG.out).mono ?_; rintro e w2 ⟨rfl, hb2⟩; have hbx := (BX.out.keep hb2).cell)
    go_ret
    exact ⟨ret_bool (false_dec fun h => Hlen.out h.2.1), hbA.out.trans (hb2.mono hbA.out.size)⟩
  have hne : ((l.length : Int) != (g.length : Int)) = false := by simp; omega
  have Hlen := Lib.hid hlen
  clear hlen
  go_enter Tryd.func21, Tryd.ntmps21
  go_wp2_with (first
    | (go_at_call 38; refine (increasing_any _ _ g.length (by omega) (by omega) _ (Nums.of_owns hown4 (by simp) hll)).mono ?_; rintro e w5 ⟨rfl, rfl⟩)
    | (go_at_call 36; refine (sorted_any w2.heap.size _ l hll _ (by rw [size_alloc]; omega) (cell_new _ _ _) (Held.of_nums ((HN.out.below hb2).below (below_alloc w2 _)))).mono ?_; rintro e w4 ⟨sv, rfl, hown4, hb4⟩; have hbx4 := (((BX.out.keep hb2).alloc (.cells #[.slice lp l.length lc] 25)).keep hb4).cell)
    | (go_at_call 37; refine (values_any _ _ _ _).mono ?_; rintro e w3 ⟨rfl, rfl⟩)
    | (go_at_call 35; refine (implGraphOk_any _ g _ HG.out).mono ?_; rintro e w2 ⟨rfl, hb2⟩; have hbx := (BX.out.keep hb2).cell))
  go_ret
  have hb := ((hbA.out.trans (hb2.mono hbA.out.size)).alloc (Nat.le_trans hbA.out.size hb2.size) (.cells #[.slice lp l.length lc] 25)).trans (hb4.mono (by rw [size_alloc]; have := hbA.out.size; have := hb2.size; omega))
  exact ⟨ret_bool (dec_congr ⟨fun h => ⟨Hok.out, (ordOk_sort Hlen.out).1 h⟩, fun h => (ordOk_sort Hlen.out).2 h.2⟩), hb⟩

end Go.Proofs.YtlhkhibnbmnjiaaDoor
