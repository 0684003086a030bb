/- Walks: the reference's rows of a code, and its test of a small graph. -/
import Derived.Test.YtiklocamfgopbaaDoorCnP
import Derived.Test.YtiklocamfgopbaaDoorLinkC
import Derived.Test.YtiklocamfgopbaaDoorImplR
import Derived.Test.YtiklocamfgopbaaDoorLexW
import Derived.Test.YtiklocamfgopbaaDoorSame
namespace Go.Proofs.YtiklocamfgopbaaDoor
open Go.RowKit

/-- Edges of a graph, as a search of orders looks at them. -/
def edB (g : List (List Int)) : Nat → Nat → Bool := fun u v => decide ((v : Int) ∈ row g u)

set_option maxHeartbeats 400000 in
theorem l1Flag_any (b : Bool) (w : World) : Calls Tryd.prog 84 #[.bool b] w fun e w' => e = .returned (.int .i64 ((if b then 1 else 0 : Nat) : Int)) ∧ w = w' := by
  cases b
  · go_enter Tryd.func84, Tryd.ntmps84
    go_wp2
    go_ret
    exact ⟨rfl, rfl⟩
  · go_enter Tryd.func84, Tryd.ntmps84
    go_wp2
    go_ret
    exact ⟨rfl, rfl⟩

set_option maxRecDepth 100000 in
set_option maxHeartbeats 1000000 in
theorem l4Small_any (v : Value) (g : List (List Int)) (w : World) (hg : Gr w v g) :
    Calls Tryd.prog 41 #[v] w fun e w' => e = .returned (.bool (dec (GOk g ∧ g.length ≤ 8))) ∧ Below w.heap.size w w' := by
  have hg0 := hg
  obtain ⟨u, rfl, hr⟩ := hg
  obtain ⟨p, c, rfl, _, _, _⟩ := hr.shape
  have hbA := Lib.hid (below_alloc w (.cells #[.slice p g.length c] 30))
  have HG := Lib.hid (hg0.below hbA.out)
  have BX := Lib.hid (Box.new w (.slice p g.length c) 30)
  clear hr hg0
  by_cases hok : GOk g
  · have hd := dec_true hok
    have h16 := hok.le
    have Hok := Lib.hid hok
    clear hok
    by_cases h8 : g.length ≤ 8
    · have h8' : (g.length : Int) ≤ 8 := by omega
      have H8 := Lib.hid h8
      clear h8
      go_enter Tryd.func41, Tryd.ntmps41
      go_wp2_with (first
        | (go_at_call 21; refine (specGraphOk_any _ g _ HG.out).mono ?_; rintro e w2 ⟨rfl, hb2⟩; have hb := Lib.hid (hbA.out.trans (hb2.mono hbA.out.size)); have HG2 := Lib.hid (HG.out.below hb2); have hbx := (BX.out.keep hb2).cell; clear hb2)
        | (go_at_call 50; refine (l1Size_any _ g _ HG2.out).mono ?_; rintro e w3 ⟨rfl, hb3⟩))
      go_ret
      exact ⟨ret_bool (true_dec ⟨Hok.out, H8.out⟩), hb.out.trans (hb3.mono hb.out.size)⟩
    · have h8' : ¬ (g.length : Int) ≤ 8 := by omega
      have H8 := Lib.hid h8
      clear h8
      go_enter Tryd.func41, Tryd.ntmps41
      go_wp2_with (first
        | (go_at_call 21; refine (specGraphOk_any _ g _ HG.out).mono ?_; rintro e w2 ⟨rfl, hb2⟩; have hb := Lib.hid (hbA.out.trans (hb2.mono hbA.out.size)); have HG2 := Lib.hid (HG.out.below hb2); have hbx := (BX.out.keep hb2).cell; clear hb2)
        | (go_at_call 50; refine (l1Size_any _ g _ HG2.out).mono ?_; rintro e w3 ⟨rfl, hb3⟩))
      go_ret
      exact ⟨ret_bool ((decide_eq_false (by omega : ¬ (g.length : Int) ≤ 8)).trans (false_dec fun h => H8.out h.2)), hb.out.trans (hb3.mono hb.out.size)⟩
  · have hd := dec_false hok
    have Hok := Lib.hid hok
    clear hok
    go_enter Tryd.func41, Tryd.ntmps41
    go_wp2_with (go_at_call 21; refine (specGraphOk_any _ g _ HG.out).mono ?_; rintro e w2 ⟨rfl, hb2⟩; have hb := Lib.hid (hbA.out.trans (hb2.mono hbA.out.size)); clear hb2)
    go_ret
    exact ⟨ret_bool (false_dec fun h => Hok.out h.1), hb.out⟩

theorem rowC_take {E : Nat → Nat → Bool} {o : List Nat} {v k : Nat} (h : k < o.length) : rowC E (o.take (k + 1)) v = rowC E (o.take k) v ++ [if E o[k] v then 1 else 0] := by
  unfold rowC; rw [take_snoc' o k h, List.map_append]; rfl
theorem natInts_snoc (l : List Nat) (x : Nat) : natInts (l ++ [x]) = natInts l ++ [(x : Int)] := by simp [natInts]

set_option maxRecDepth 100000 in
set_option maxHeartbeats 4000000 in
theorem l4Row_any (v lv : Value) (z : Int) (g : List (List Int)) (o : List Nat) (x : Nat) (hz : z = x) (ho : ∀ u ∈ o, u < g.length) (hol : o.length ≤ 100) (w : World) (hg : Gr w v g) (hn : Nums w 2 .i64 lv (natInts o)) :
    Calls Tryd.prog 67 #[v, lv, .int .i64 z] w fun e w' => ∃ u, e = .returned u ∧ w'.ownsRow w.heap.size 2 1 u o.length ((natInts (rowC (edB g) o x)).map (Value.int .i64)) ∧ Below w.heap.size w w' := by
  subst hz
  have hg0 := hg
  obtain ⟨u, rfl, hr⟩ := hg
  obtain ⟨p, c, rfl, _⟩ := hr.shape
  obtain ⟨lp, lc, rfl, _⟩ := id hn.shape
  obtain ⟨W0, hW0⟩ : ∃ W0, W0 = w.alloc (.cells #[.slice p g.length c] 30) := ⟨_, rfl⟩
  have hb0 : Below w.heap.size w W0 := by rw [hW0]; exact below_alloc _ _
  have HB0 := Lib.hid hb0
  have HBG : Hid (Box W0 w.heap.size 30 (.slice p g.length c)) := Lib.hid (by rw [hW0]; exact Box.new _ _ _)
  have HG := Lib.hid (hg0.below hb0)
  have HN := Lib.hid (hn.below hb0)
  have HNW := Lib.hid hn
  have sz0 : W0.heap.size = w.heap.size + 1 := by rw [hW0, size_alloc]
  have HO := Lib.hid ho
  have hnl := natInts_length o
  rw [hnl]
  clear hr hg0 hn hb0 ho
  go_enter Tryd.func67, Tryd.ntmps67
  go_upto_region 1 with fail
  rw [← hW0]
  clear hW0
  go_wp2_with fail
  go_loopw [7, 8] (fun ov i wr => ∃ k : Nat, k ≤ o.length ∧ i = .int .i64 k ∧ Below W0.heap.size W0 wr ∧ wr.ownsRow W0.heap.size 2 1 ov k ((natInts (rowC (edB g) (o.take k) x)).map (Value.int .i64))) (fun _ i _ => o.length - (intOf i).toNat)
  case atStart => exact ⟨0, Nat.zero_le _, rfl, below_alloc _ _, by have := ownsRow_empty W0 2 1; rw [show w.heap.size + 1 = W0.heap.size from sz0.symm]; exact this⟩
  case round =>
    obtain ⟨k, hk, rfl, hb, hown⟩ := hrel
    have HB := Lib.hid hb
    have hcg := hb.at (by omega) HBG.out.cell
    have hnn := HN.out.below hb
    have HOW := Lib.hid hown
    have hsr := hb.size
    obtain ⟨op, oc, rfl⟩ : ∃ op oc, u7 = .slice op k oc := by
      rcases hown.2 with ⟨rfl, h0⟩ | ⟨b, c, _, rfl, _⟩
      · exact ⟨none, 0, by rw [h0]⟩
      · exact ⟨_, _, rfl⟩
    clear hb hown
    by_cases hlt : k < o.length
    · obtain ⟨y, hy⟩ : ∃ y, y = o[k] := ⟨_, rfl⟩
      have hyn := HO.out _ (List.getElem_mem hlt)
      rw [← hy] at hyn
      have hlt' : k < (natInts o).length := by rw [natInts_length]; exact hlt
      rw [hnl] at hnn
      obtain ⟨eb, eo, rfl, hce⟩ := hnn.get hlt'
      rw [natInts_atL hlt, ← hy] at hce
      have hebl : eb < w.heap.size := by
        obtain ⟨_, _, e, hc'⟩ := HNW.out.get (k := k) (by rw [natInts_length]; exact hlt)
        cases e
        exact World.block_lt_of_cell? _ _ hc'
      have HY := Lib.hid hy
      have HED : Hid (dec ((x : Int) ∈ row g y) = edB g y x) := Lib.hid (by unfold edB; rw [decide_dec])
      obtain ⟨fl, hfl⟩ : ∃ fl : Nat, fl = if edB g y x then 1 else 0 := ⟨_, rfl⟩
      have FLAG : Hid (∀ w, Calls Tryd.prog 84 #[.bool (dec ((x : Int) ∈ row g y))] w fun e w' => e = .returned (.int .i64 (fl : Int)) ∧ w = w') := Lib.hid (fun w => by rw [HED.out, hfl]; exact l1Flag_any _ w)
      have HFL := Lib.hid hfl
      have HGr := Lib.hid (HG.out.below HB.out)
      clear hnn hlt' hy hfl
      go_upto_region 5 with fail
      go_region_held3 (fun w' => w'.cell? ⟨w.heap.size, 0, none⟩ = some (.slice p g.length c) ∧ w'.cell? ⟨eb, eo + k, none⟩ = some (.int .i64 y))
        (first | exact ⟨hcg, hce⟩ | exact ⟨BWA.at' hcg, BWA.at' hce⟩ | exact ⟨(BWA.alloc BWA.size _).at' hcg, (BWA.alloc BWA.size _).at' hce⟩ | exact ⟨BW7.1, BW7.2⟩ | go_keep)
        (first
          | (go_at_call 71; refine (l1Edge_any _ g _ _ y x rfl rfl hyn _ (HGr.out.below (below_dN (Below.refl _ _) 1))).mono ?_; rintro e w4 ⟨rfl, hb4⟩; have BWA : Below wr.heap.size wr w4 := (below_dN (Below.refl _ _) 1).trans hb4; have hownc := ownsRow_below HOW.out BWA; have hs4 := BWA.size; clear hb4)
          | (go_at_call 84; refine (FLAG.out _).mono ?_; rintro e w5 ⟨rfl, rfl⟩)
          | (refine step_app1s ty_i64 rfl rfl rfl hownc rfl rfl (by omega) (by omega) ?_; intro b7 c8 w7 hown7 hg7; have hb7 := below_grown (Below.refl W0.heap.size w4) hownc hg7 (Nat.le_refl _) (by omega); have BW7 : w7.cell? ⟨w.heap.size, 0, none⟩ = some (.slice p g.length c) ∧ w7.cell? ⟨eb, eo + k, none⟩ = some (.int .i64 y) := ⟨hb7.at (by omega) (BWA.at' hcg), hb7.at (by omega) (BWA.at' hce)⟩))
      all_goals
        have HOX := Lib.hid hown7
        have HBX := Lib.hid (HB.out.trans ((BWA.mono hsr).trans hb7))
        clear hcg hce
        go_wp2
        go_roundw
        case rel => exact ⟨k + 1, by omega, by go_num, HBX.out, by rw [rowC_take hlt, natInts_snoc, List.map_append, ← HY.out, ← HFL.out]; exact HOX.out⟩
        case measure => simp [intOf]; omega
    · obtain rfl : k = o.length := by omega
      rw [List.take_length] at HOW
      clear hnn
      go_wp2_with fail
      go_ret
      exact ⟨_, rfl, ownsRow_base HOW.out (by omega), HB0.out.trans (HB.out.mono HB0.out.size)⟩

end Go.Proofs.YtiklocamfgopbaaDoor
