/- Walks: l8Meet, l1All (the reference's cliques). -/
import Derived.Test.YtiooindlpinjhaaDoorWlQ27
import Derived.Test.YtiooindlpinjhaaDoorWlQ14
import Derived.Test.YtiooindlpinjhaaDoorWlQ11
import Derived.Deep.RegionHeld3
import Derived.Deep.DeepCutAuto
import Derived.Test.YtiooindlpinjhaaDoorWlQ29
import Derived.Test.YtiooindlpinjhaaDoorWlQ13
import Derived.Test.YtiooindlpinjhaaDoorWlQ25
import Derived.Test.YtiooindlpinjhaaDoorWlQ35
import Derived.Test.YtiooindlpinjhaaDoorWlQ36
namespace Go.Proofs.YtiooindlpinjhaaDoor
open Go.RowKit

set_option maxRecDepth 100000 in
set_option maxHeartbeats 1000000 in
theorem l1All_any (z : Int) (n : Nat) (hz : z = n) (hn : n ≤ 1000) (w : World) :
    Calls Tryd.prog 108 #[.int .i64 z] w fun e w' => ∃ ov, e = .returned ov ∧ w'.ownsRow w.heap.size 2 1 ov n ((natInts (List.range n)).map (Value.int .i64)) ∧ Below w.heap.size w w' := by
  subst hz
  have HO := Lib.hid (ownsRow_empty w 2 1)
  have HB := Lib.hid (below_alloc w (.cells #[] 2))
  go_enter Tryd.func108, Tryd.ntmps108
  go_wp2
  go_loopw [3, 4] (fun o i wr => ∃ k : Nat, k ≤ n ∧ i = .int .i64 k ∧ wr.ownsRow w.heap.size 2 1 o k ((natInts (List.range k)).map (Value.int .i64)) ∧ Below w.heap.size w wr) (fun _ i _ => n - (intOf i).toNat)
  case atStart => exact ⟨0, Nat.zero_le _, rfl, HO.out, HB.out⟩
  case round =>
    obtain ⟨k, hk, rfl, hown, hbel⟩ := hrel
    have hsz := hbel.size
    by_cases hlt : k < n
    · go_wp2_with (at_builtin; refine wpList_app1 ty_i64 rfl rfl rfl hown rfl rfl (by omega) (by omega) ?_; intro v' w1 hown' hg _)
      go_roundw
      case rel => exact ⟨k + 1, by omega, by go_num, by rw [List.range_succ, show natInts (List.range k ++ [k]) = natInts (List.range k) ++ [(k : Int)] by simp [natInts], List.map_append]; exact hown', below_grown hbel hown hg (Nat.le_refl _) hsz⟩
      case measure => simp [intOf]; omega
    · obtain rfl : k = n := by omega
      go_wp2
      go_ret
      exact ⟨_, rfl, hown, hbel⟩

theorem nums_at {w : World} {E : TypeId} {p : Option Addr} {m c : Nat} {xs : List Int} (h : Nums w E .i64 (.slice p m c) xs) : At w E p (xs.map (Value.int .i64)) := by
  obtain ⟨p', c', e, _, _, _, hat⟩ := h
  simp only [Value.slice.injEq] at e
  obtain ⟨rfl, _, _⟩ := e
  exact hat
/-- Those of xs that are in ys, up to the k-th. -/
def meetL (xs : List Nat) (ys : List Int) (k : Nat) : List Nat := (xs.take k).filter fun j => decide ((j : Int) ∈ ys)
theorem meetL_succ {xs : List Nat} {ys : List Int} {k : Nat} (h : k < xs.length) : meetL xs ys (k + 1) = if ((xs[k] : Nat) : Int) ∈ ys then meetL xs ys k ++ [xs[k]] else meetL xs ys k := by
  unfold meetL
  rw [take_snoc _ k h, List.filter_append]
  by_cases hm : ((xs[k] : Nat) : Int) ∈ ys
  · rw [if_pos hm]; simp [hm]
  · rw [if_neg hm]; simp [hm]
theorem meetL_len (xs : List Nat) (ys : List Int) (k : Nat) : (meetL xs ys k).length ≤ xs.length := Nat.le_trans (List.length_filter_le _ _) (by rw [List.length_take]; omega)

end Go.Proofs.YtiooindlpinjhaaDoor

/- Walk: the reference's CutVertex, of a right graph of two vertices at least. -/
namespace Go.Proofs.YtiooindlpinjhaaDoor
open Go.RowKit

set_option maxRecDepth 100000 in
theorem l1ThereM_any (v : Value) (g : List (List Int)) (x : Int) (w : World) (hg : Gr w v g) (hn : g.length ≤ 1000000000) :
    Calls Tryd.prog 98 #[v, .int .i64 x] w fun e w' => e = .returned (.bool (dec (0 ≤ x ∧ x < g.length))) ∧ Below w.heap.size w w' := by
  have hg0 := hg
  obtain ⟨u, rfl, hr⟩ := hg
  obtain ⟨p, c, rfl, _⟩ := hr.shape
  have hbA := Lib.hid (below_alloc w (.cells #[.slice p g.length c] 28))
  have HG := Lib.hid (hg0.below hbA.out)
  clear hr hg0
  go_enter Tryd.func98, Tryd.ntmps98
  go_wp2_with (first
    | (go_at_call 116; refine (l1In_any _ _ _ _).mono ?_; rintro e w3 ⟨rfl, rfl⟩)
    | (go_at_call 75; refine (l1Size_any _ g _ HG.out).mono ?_; rintro e w2 ⟨rfl, hb2⟩))
  go_ret
  exact ⟨ret_bool (dec_congr (by omega)), hbA.out.trans (hb2.mono hbA.out.size)⟩

theorem gok_rowsMn {g : List (List Int)} (hok : GOk g) (j : Nat) : (row g j).length ≤ 16 := by
  have h16 := hok.le
  by_cases hj : j < g.length
  · have := setIn_length (by omega) (hok.sets j hj).1
    omega
  · have : row g j = [] := by simp [row, List.getElem?_eq_none (show g.length ≤ j by omega)]
    rw [this]; exact Nat.zero_le _
set_option maxRecDepth 100000 in
set_option maxHeartbeats 1000000 in
theorem l2Without_any (v : Value) (L : List Nat) (z : Int) (y : Nat) (hz : z = y) (hl : L.length ≤ 1000) (w : World) (hn : Nums w 2 .i64 v (natInts L)) :
    Calls Tryd.prog 103 #[v, .int .i64 z] w fun e w' => ∃ u, e = .returned u ∧ w'.ownsRow w.heap.size 2 1 u (L.filter fun x => x != y).length ((natInts (L.filter fun x => x != y)).map (Value.int .i64)) ∧ Below w.heap.size w w' := by
  subst hz
  obtain ⟨lp, lc, rfl, _⟩ := id hn.shape
  rw [natInts_length]
  have HN := Lib.hid hn
  have START := Lib.hid (ownsRow_empty w 2 1)
  clear hn
  go_enter Tryd.func103, Tryd.ntmps103
  go_wp2_with fail
  go_loopw [5, 6] (fun ov iv wr => ∃ k : Nat, k ≤ L.length ∧ iv = .int .i64 k ∧ wr.ownsRow w.heap.size 2 1 ov ((L.take k).filter fun x => x != y).length ((natInts ((L.take k).filter fun x => x != y)).map (Value.int .i64)) ∧ Below w.heap.size w wr) (fun _ iv _ => L.length - (intOf iv).toNat)
  case atStart => exact ⟨0, Nat.zero_le _, rfl, START.out, below_alloc _ _⟩
  case round =>
    clear START
    obtain ⟨k, hk, rfl, hown, hb⟩ := hrel
    have HO := Lib.hid hown
    have HB := Lib.hid hb
    by_cases hlt : k < L.length
    · obtain ⟨qb, qo, rfl, hq⟩ := Nums.get (k := k) (by have := HN.out.below hb; rw [natInts_length] at this; exact this) (by rw [natInts_length]; exact hlt)
      have e1 : (natInts L)[k]'(by rw [natInts_length]; exact hlt) = ((L[k] : Nat) : Int) := by simp [natInts]
      rw [e1] at hq
      have hT : L.take (k + 1) = L.take k ++ [L[k]] := take_snoc' L k hlt
      generalize L[k] = x at hq hT
      obtain ⟨F, hF⟩ : ∃ F, F = (L.take k).filter fun x => x != y := ⟨_, rfl⟩
      have hFl : F.length ≤ 1000 := by
        rw [hF]
        have := List.length_filter_le (fun x => x != y) (L.take k)
        rw [List.length_take] at this
        omega
      rw [← hF] at HO
      have HFE := Lib.hid hF
      obtain ⟨fl, hfl⟩ : ∃ fl, fl = F.length := ⟨_, rfl⟩
      have HFL := Lib.hid hfl
      rw [← hfl] at HO hFl
      have HT := Lib.hid hT
      clear hown hb e1 hT hF hfl
      by_cases hxy : x = y
      · have hne : ((x : Int) != (y : Int)) = false := by rw [hxy]; simp
        have HK : Hid ((L.take (k + 1)).filter (fun x => x != y) = F) := Lib.hid (by rw [HT.out, List.filter_append, HFE.out]; simp [hxy])
        clear hxy
        go_wp2_with fail
        go_roundw
        case rel => exact ⟨k + 1, by omega, by go_num, by rw [HK.out, ← HFL.out]; exact HO.out, HB.out⟩
        case measure => simp [intOf]; omega
      · have hne : ((x : Int) != (y : Int)) = true := bne_iff_ne.2 (by omega)
        have HK : Hid ((L.take (k + 1)).filter (fun x => x != y) = F ++ [x]) := Lib.hid (by rw [HT.out, List.filter_append, HFE.out]; simp [hxy])
        clear hxy
        go_wp2_with (at_builtin; refine wpList_app1s ty_i64 rfl rfl rfl HO.out rfl rfl (by omega) HB.out.size ?_; intro b7 c7 w7 hown7 hg7 _)
        go_roundw
        case rel => exact ⟨k + 1, by omega, by go_num, by rw [HK.out, List.length_append, ← HFL.out]; simpa [natInts] using hown7, below_grown HB.out HO.out hg7 (Nat.le_refl _) HB.out.size⟩
        case measure => simp [intOf]; omega
    · obtain rfl : k = L.length := by omega
      rw [List.take_length] at HO
      clear hown hb
      go_wp2_with fail
      go_ret
      exact ⟨_, rfl, HO.out, HB.out⟩

set_option maxRecDepth 100000 in
set_option maxHeartbeats 4000000 in
theorem specCutVertex_yes (v : Value) (g : List (List Int)) (z : Int) (b : Nat) (hz : z = b) (hok : GOk g) (hb : b < g.length) (h2 : 2 ≤ g.length) (w : World) (hg : Gr w v g) :
    Calls Tryd.prog 39 #[v, .int .i64 z] w fun e w' => ∃ u, e = .returned (.tuple #[u, .bool true]) ∧ SG w' w.heap.size u (indL g (natInts (restN g.length b))) ∧ Below w.heap.size w w' := by
  subst hz
  have hg0 := hg
  obtain ⟨u, rfl, hr⟩ := hg
  obtain ⟨p, c, rfl, _⟩ := hr.shape
  obtain ⟨W0, hW0, hbA, SZ0, B0, B1⟩ := two_boxesM w (.slice p g.length c) (.slice none 0 0) 28 28
  have HBA := Lib.hid hbA
  have HG := Lib.hid (hg0.below hbA)
  have HX0 := Lib.hid B0
  have HX1 := Lib.hid B1
  have h16 := hok.le
  have HD := Lib.hid (dec_true hok)
  have HDB := Lib.hid (dec_true (show (0 : Int) ≤ (b : Int) ∧ (b : Int) < g.length from ⟨by omega, by omega⟩))
  have hn1 : ((g.length : Int) == 1) = false := beq_eq_false_iff_ne.2 (by omega)
  have hsym := indE_sym hok (l := natInts (restN g.length b)) fun x hx => by
    obtain ⟨i, hi, rfl⟩ := mem_natInts.1 hx
    have := (mem_restN.1 hi).1
    omega
  have HSY := Lib.hid hsym
  have HLT : Hid (∀ x ∈ natInts (restN g.length b), 0 ≤ x ∧ x < g.length) := Lib.hid (fun x hx => by
    obtain ⟨i, hi, rfl⟩ := mem_natInts.1 hx
    have := (mem_restN.1 hi).1
    omega)
  have HRE : Hid ((List.range g.length).filter (fun x => x != b) = restN g.length b) := Lib.hid rfl
  have HRL : Hid ((restN g.length b).length ≤ 16) := Lib.hid (Nat.le_trans (List.length_filter_le _ _) (by rw [List.length_range]; exact h16))
  clear hr hg0 hok hbA B0 B1 hsym SZ0
  go_enter Tryd.func39, Tryd.ntmps39
  go_upto_region 1 with fail
  rw [← hW0]
  clear hW0
  have c0 := HX0.out.cell
  go_upto_region 3 with (first
    | (go_at_call 45; refine (specGraphOk_any _ g _ HG.out).mono ?_; rintro e w2 ⟨he, hb2⟩; rw [HD.out] at he; subst he; have c2 := hb2.at' c0)
    | (go_at_call 98; refine (l1ThereM_any _ g (b : Int) _ (HG.out.below hb2) (by omega)).mono ?_; rintro e w3 ⟨he, hb3⟩; rw [HDB.out] at he; subst he; have c3 := hb3.at' c2)
    | (go_at_call 75; refine (l1Size_any _ g _ ((HG.out.below hb2).below hb3)).mono ?_; rintro e w4 ⟨rfl, hb4⟩; have c4 := hb4.at' c3))
  have HB4 : Hid (Below W0.heap.size W0 w4) := Lib.hid ((hb2.trans (hb3.mono hb2.size)).trans (hb4.mono (Nat.le_trans hb2.size hb3.size)))
  have HG4 := Lib.hid (HG.out.below HB4.out)
  obtain ⟨nc, nf, nl, nB⟩ := HX1.out.keep HB4.out
  have cr := c4
  have nlt := HX1.out.lt
  have s4 := HB4.out.size
  clear hb2 hb3 hb4 c0 c2 c3 hn1 c4
  go_region_held3 (fun W => W.cell? ⟨w.heap.size, 0, none⟩ = some (.slice p g.length c))
    (first | exact cr | go_keep | exact BWD.at' cr | exact BWC.at' cr | exact BWB.at' cr | exact BWA.at' cr | exact (World.cell?_setCell_far _ _ _ _ (by show w.heap.size + 1 ≠ w.heap.size; omega)).trans (BWD.at' cr))
    (first
      | (go_at_call 75; refine (l1Size_any _ g _ (HG4.out.below (below_dN (Below.refl _ _) 1))).mono ?_; rintro e wa ⟨rfl, hbq⟩; have BWA : Below w4.heap.size w4 wa := (below_dN (Below.refl _ _) 1).trans hbq; clear hbq)
      | (go_at_call 108; refine (l1All_any _ g.length rfl (by omega) _).mono ?_; rintro e wb ⟨av, rfl, ho, hbq⟩; have HNA : Hid (Nums wb 2 .i64 av (natInts (List.range g.length))) := Lib.hid (Nums.of_owns ho (by rw [natInts_length, List.length_range]) (by omega)); have BWB : Below w4.heap.size w4 wb := BWA.trans (hbq.mono BWA.size); clear hbq ho)
      | (go_at_call 103; refine (l2Without_any _ (List.range g.length) _ b rfl (by rw [List.length_range]; omega) _ HNA.out).mono ?_; rintro e wc ⟨lv, rfl, ho, hbq⟩; rw [HRE.out] at ho; have HNL : Hid (Nums wc 2 .i64 lv (natInts (restN g.length b))) := Lib.hid (Nums.of_owns ho (by rw [natInts_length]) (by have := HRL.out; omega)); have BWC : Below w4.heap.size w4 wc := BWB.trans (hbq.mono BWB.size); clear hbq ho)
      | (go_at_call 107; refine (l2Of_any _ _ g (natInts (restN g.length b)) HLT.out (by rw [natInts_length]; have := HRL.out; omega) HSY.out _ (HG4.out.below BWC) HNL.out).mono ?_; rintro e wd ⟨u, rfl, hs, hbq⟩; obtain ⟨up, uc, rfl⟩ := hs.shape; have HSD := Lib.hid hs; have BWD : Below w4.heap.size w4 wd := BWC.trans (hbq.mono BWC.size); have nc4 := BWD.at' nc; have nB4 := (Box.keep ⟨nc, nf, nl, nB⟩ BWD); have nf4 := nB4.free; clear hbq hs))
  all_goals go_wp2
  have e0 := HBA.out.size
  refine bodyPost_ret (v := .tuple #[.agg #[.slice up (indL g (natInts (restN g.length b))).length uc], .bool true]) (by simp [results, Tryd.results39, go_sem, nc4]) rfl ⟨_, rfl, (HSD.out.setBox nB4 _).base (by have := BWC.size; omega), ?_⟩
  exact ((HBA.out.trans (HB4.out.mono e0)).trans (BWD.mono (by omega))).setCell (by show w.heap.size ≤ w.heap.size + 1; omega) _

end Go.Proofs.YtiooindlpinjhaaDoor

/- Walks: the reference's greater of two, a list without a number, an edge, a vertex cut; the laws' count of edges. -/
namespace Go.Proofs.YtiooindlpinjhaaDoor
open Go.RowKit

theorem minMn_any (x y : Int) (w : World) : Calls Tryd.prog 104 #[.int .i64 x, .int .i64 y] w fun e w' => e = .returned (.int .i64 (min x y)) ∧ w = w' := by
  by_cases h : x < y
  · have hm : Hid (min x y = x) := Lib.hid (by omega)
    go_enter Tryd.func104, Tryd.ntmps104
    go_wp2
    go_ret
    exact ⟨by rw [hm.out]; rfl, rfl⟩
  · have hm : Hid (min x y = y) := Lib.hid (by omega)
    go_enter Tryd.func104, Tryd.ntmps104
    go_wp2
    go_ret
    exact ⟨by rw [hm.out]; rfl, rfl⟩
theorem maxMn_any (x y : Int) (w : World) : Calls Tryd.prog 105 #[.int .i64 x, .int .i64 y] w fun e w' => e = .returned (.int .i64 (max x y)) ∧ w = w' := by
  by_cases h : y < x
  · have hm : Hid (max x y = x) := Lib.hid (by omega)
    go_enter Tryd.func105, Tryd.ntmps105
    go_wp2
    go_ret
    exact ⟨by rw [hm.out]; rfl, rfl⟩
  · have hm : Hid (max x y = y) := Lib.hid (by omega)
    go_enter Tryd.func105, Tryd.ntmps105
    go_wp2
    go_ret
    exact ⟨by rw [hm.out]; rfl, rfl⟩

set_option maxRecDepth 100000 in
set_option maxHeartbeats 2000000 in
theorem specEdgeIn_yes (v : Value) (g : List (List Int)) (y z : Int) (a b : Nat) (hy : y = a) (hz : z = b) (hok : GOk g) (ha : a < g.length) (hb : b < g.length) (hE : ofG g a b = true) (w : World) (hg : Gr w v g) :
    Calls Tryd.prog 35 #[v, .int .i64 y, .int .i64 z] w fun e w' => e = .returned (.bool true) ∧ Below w.heap.size w w' := by
  subst hy; subst hz
  have hg0 := hg
  obtain ⟨u, rfl, hr⟩ := hg
  obtain ⟨p, c, rfl, _⟩ := hr.shape
  have hbA := Lib.hid (below_alloc w (.cells #[.slice p g.length c] 28))
  have HG := Lib.hid (hg0.below hbA.out)
  have BX := Lib.hid (Box.new w (.slice p g.length c) 28)
  have h16 := hok.le
  have HD := Lib.hid (dec_true hok)
  have HDA := Lib.hid (dec_true (show (0 : Int) ≤ (a : Int) ∧ (a : Int) < g.length from ⟨by omega, by omega⟩))
  have HDB := Lib.hid (dec_true (show (0 : Int) ≤ (b : Int) ∧ (b : Int) < g.length from ⟨by omega, by omega⟩))
  have HDE := Lib.hid (dec_true (show (b : Int) ∈ row g a by simpa [ofG] using hE))
  clear hr hg0 hok hE
  go_enter Tryd.func35, Tryd.ntmps35
  go_wp2_with (first
    | (go_at_call 45; refine (specGraphOk_any _ g _ HG.out).mono ?_; rintro e w2 ⟨he, hb2⟩; rw [HD.out] at he; subst he; have c2 := (BX.out.keep hb2).cell)
    | (go_at_call 98; have hb3_ := hb3; refine (l1ThereM_any _ g (b : Int) _ ((HG.out.below hb2).below hb3_) (by omega)).mono ?_; rintro e w4 ⟨he, hb4⟩; rw [HDB.out] at he; subst he; have c4 := hb4.at' c3)
    | (go_at_call 98; refine (l1ThereM_any _ g (a : Int) _ (HG.out.below hb2) (by omega)).mono ?_; rintro e w3 ⟨he, hb3⟩; rw [HDA.out] at he; subst he; have c3 := hb3.at' c2)
    | (go_at_call 99; refine (l1Edge_any _ g _ _ a b rfl rfl ha _ (((HG.out.below hb2).below hb3).below hb4)).mono ?_; rintro e w5 ⟨he, hb5⟩; rw [HDE.out] at he; subst he))
  go_ret
  exact ⟨rfl, (((hbA.out.trans (hb2.mono hbA.out.size)).trans (hb3.mono (Nat.le_trans hbA.out.size hb2.size))).trans (hb4.mono (Nat.le_trans (Nat.le_trans hbA.out.size hb2.size) hb3.size))).trans (hb5.mono (Nat.le_trans (Nat.le_trans (Nat.le_trans hbA.out.size hb2.size) hb3.size) hb4.size))⟩

def lenTo (g : List (List Int)) (k : Nat) : Nat := ((List.range k).map fun v => (row g v).length).sum
theorem lenTo_succ (g : List (List Int)) (k : Nat) : lenTo g (k + 1) = lenTo g k + (row g k).length := by simp [lenTo, List.range_succ]
end Go.Proofs.YtiooindlpinjhaaDoor

/- Walk: the reference's contraction of an edge. -/
namespace Go.Proofs.YtiooindlpinjhaaDoor
open Go.RowKit

/-- The edges, and some more at a. -/
def conI (E : Nat → Nat → Bool) (a : Nat) (T : List Nat) : Nat → Nat → Bool := fun r j => E r j || (r == a && decide (j ∈ T)) || (j == a && decide (r ∈ T))
theorem conI_nil (m : Nat) (E : Nat → Nat → Bool) (a : Nat) : matG m (conI E a []) = matG m E := matG_congr fun r j _ _ => by simp [conI]
theorem conI_link {m : Nat} {E : Nat → Nat → Bool} {a y : Nat} {T : List Nat} (ha : a < m) (hy : y < m) (hay : a ≠ y) : linkL (matG m (conI E a T)) a y = matG m (conI E a (T ++ [y])) := by
  rw [link_matG ha hy hay]
  refine matG_congr fun r j _ _ => ?_
  unfold conI
  rw [Bool.eq_iff_iff]
  simp only [Bool.or_eq_true, Bool.and_eq_true, beq_iff_eq, decide_eq_true_eq, List.mem_append, List.mem_singleton]
  constructor
  · rintro ((((h | h) | h) | h) | h)
    · exact .inl (.inl h)
    · exact .inl (.inr ⟨h.1, .inl h.2⟩)
    · exact .inr ⟨h.1, .inl h.2⟩
    · exact .inl (.inr ⟨h.1, .inr h.2⟩)
    · exact .inr ⟨h.2, .inr h.1⟩
  · rintro ((h | ⟨h1, h2 | h2⟩) | ⟨h1, h2 | h2⟩)
    · exact .inl (.inl (.inl (.inl h)))
    · exact .inl (.inl (.inl (.inr ⟨h1, h2⟩)))
    · exact .inl (.inr ⟨h1, h2⟩)
    · exact .inl (.inl (.inr ⟨h1, h2⟩))
    · exact .inr ⟨h2, h1⟩
theorem conI_all {g : List (List Int)} {a b : Nat} {rn : List Nat} (hr : row g b = natInts rn) : matG g.length (conI (ofG g) a (rn.filter fun x => x != a)) = matG g.length (conE (ofG g) a b) := by
  refine matG_congr fun r j _ _ => ?_
  have hm : ∀ j, decide (j ∈ rn.filter fun x => x != a) = (ofG g b j && j != a) := fun j => by
    rw [Bool.eq_iff_iff]
    simp only [decide_eq_true_eq, List.mem_filter, Bool.and_eq_true, bne_iff_ne, ofG, hr, mem_natInts]
    constructor
    · exact fun h => ⟨⟨j, h.1, rfl⟩, h.2⟩
    · rintro ⟨⟨i, hi, e⟩, h2⟩
      obtain rfl : i = j := by omega
      exact ⟨hi, h2⟩
  unfold conI conE
  rw [hm r, hm j]

set_option maxRecDepth 100000 in
set_option maxHeartbeats 4000000 in
theorem specContracted_yes (v : Value) (g : List (List Int)) (y z : Int) (a b : Nat) (hy : y = a) (hz : z = b) (hok : GOk g) (hab : a < b) (hb : b < g.length) (hE : ofG g a b = true) (w : World) (hg : Gr w v g) :
    Calls Tryd.prog 38 #[v, .int .i64 y, .int .i64 z] w fun e w' => ∃ u, e = .returned (.tuple #[u, .bool true]) ∧ SG w' w.heap.size u (indL (matG g.length (conE (ofG g) a b)) (natInts (restN g.length b))) ∧ Below w.heap.size w w' := by
  subst hy; subst hz
  have hg0 := hg
  obtain ⟨u, rfl, hr⟩ := hg
  obtain ⟨gp, gc, rfl, _⟩ := hr.shape
  obtain ⟨W0, hW0, hbA, SZ0, B0, B1⟩ := two_boxesM w (.slice gp g.length gc) (.slice none 0 0) 28 28
  have HBA := Lib.hid hbA
  have HG := Lib.hid (hg0.below hbA)
  have HX0 := Lib.hid B0
  have HX1 := Lib.hid B1
  have HSZ := Lib.hid SZ0
  have h16 := hok.le
  have ha : a < g.length := by omega
  have HOK := Lib.hid hok
  have HE := Lib.hid hE
  have hmin : Hid (min (a : Int) (b : Int) = (a : Int)) := Lib.hid (by omega)
  have hmax : Hid (max (a : Int) (b : Int) = (b : Int)) := Lib.hid (by omega)
  have hc : GOk (matG g.length (conE (ofG g) a b)) := gok_matG hok.pos h16 (conE_sym (ofG_sym hok) a b) (conE_irr (ofG_irr hok) a b)
  have HLT : Hid (∀ x ∈ natInts (restN g.length b), 0 ≤ x ∧ x < (matG g.length (conE (ofG g) a b)).length) := Lib.hid (fun x hx => by
    obtain ⟨i, hi, rfl⟩ := mem_natInts.1 hx
    have := (mem_restN.1 hi).1
    rw [matG_length]
    omega)
  have HSY := Lib.hid (indE_sym hc HLT.out)
  have HRE : Hid ((List.range g.length).filter (fun x => x != b) = restN g.length b) := Lib.hid rfl
  have HRL : Hid ((restN g.length b).length ≤ 16) := Lib.hid (Nat.le_trans (List.length_filter_le _ _) (by rw [List.length_range]; exact h16))
  obtain ⟨hrn1, _, hrn3⟩ := setIn_nats (hok.sets b hb).1
  obtain ⟨rn, hrn⟩ : ∃ rn, rn = (row g b).map Int.toNat := ⟨_, rfl⟩
  rw [← hrn] at hrn1 hrn3
  have HRN := Lib.hid hrn1.symm
  have HRN3 := Lib.hid hrn3
  have hrl : rn.length ≤ 16 := by
    have := setIn_length (by omega) (hok.sets b hb).1
    rw [hrn, List.length_map]
    omega
  have HALL := Lib.hid (conI_all (g := g) (a := a) (b := b) (rn := rn) hrn1.symm)
  clear hr hg0 hok hbA B0 B1 SZ0 hE hc hrn1 hrn3 hrn
  go_enter Tryd.func38, Tryd.ntmps38
  go_upto_region 1 with fail
  rw [← hW0]
  clear hW0
  have c0 := HX0.out.cell
  go_upto_region 5 with (first
    | (go_at_call 35; refine (specEdgeIn_yes _ g _ _ a b rfl rfl HOK.out ha hb HE.out _ HG.out).mono ?_; rintro e w2 ⟨rfl, hb2⟩; have c2 := hb2.at' c0)
    | (go_at_call 104; refine (minMn_any _ _ _).mono ?_; rintro e w3 ⟨he, hw⟩; rw [hmin.out] at he; subst he; subst hw)
    | (go_at_call 105; refine (maxMn_any _ _ _).mono ?_; rintro e w3 ⟨he, hw⟩; rw [hmax.out] at he; subst he; subst hw))
  have HB2 := Lib.hid hb2
  have HG2 := Lib.hid (HG.out.below hb2)
  clear hb2 c0
  go_upto_region 6 with (go_at_call 102; refine (l1CopyGraph_any _ g (by omega) (fun j => by have := gok_rowsMn HOK.out j; omega) _ HG2.out).mono ?_; rintro e w3 ⟨u3, rfl, hs3, hb3⟩; obtain ⟨p, c, rfl⟩ := hs3.shape)
  have START : Hid (L2I w2 (w3.alloc (.cells #[.slice p g.length c] 28)) w3.heap.size p c g.length (matG g.length (conI (ofG g) a []))) := Lib.hid
    ⟨by rw [conI_nil, matG_ofG HOK.out]; exact hs3.below (below_alloc _ _), hb3.alloc hb3.size _, Box.new _ _ _, hs3.lt, hb3.size⟩
  have s2 := HB2.out.size
  clear hs3 hb3 c2
  go_wp2_with fail
  go_loopw [11] (fun iv wr => ∃ k : Nat, k ≤ rn.length ∧ iv = .int .i64 k ∧ L2I w2 wr w3.heap.size p c g.length (matG g.length (conI (ofG g) a ((rn.take k).filter fun x => x != a)))) (fun iv _ => rn.length - (intOf iv).toNat)
  case atStart => exact ⟨0, Nat.zero_le _, rfl, START.out⟩
  case round =>
    clear START
    obtain ⟨k, hk, rfl, hI⟩ := hrel
    have HI := Lib.hid hI
    have c0 := (HX0.out.keep (HB2.out.trans (hI.bel.mono HB2.out.size))).cell
    obtain ⟨_, eG, hRg⟩ := id (HG2.out.below hI.bel)
    cases eG
    obtain ⟨rb, ro, rp, rc, hgp, hcr, hnr⟩ := hRg.get hb
    subst hgp
    replace hcr : wr.cell? _ = some (.slice rp (row g b).length rc) := hcr
    replace hnr : Nums wr _ _ (.slice rp (row g b).length rc) (row g b) := hnr
    rw [HRN.out, natInts_length] at hcr hnr
    clear hRg hI
    by_cases hlt : k < rn.length
    · obtain ⟨nb, no, hnp, hcn⟩ := Nums.get (k := k) (by rw [← natInts_length rn] at hnr; exact hnr) (by rw [natInts_length]; exact hlt)
      subst hnp
      have e1 : (natInts rn)[k]'(by rw [natInts_length]; exact hlt) = ((rn[k] : Nat) : Int) := by simp [natInts]
      rw [e1] at hcn
      have hyn := HRN3.out _ (List.getElem_mem hlt)
      have hT : rn.take (k + 1) = rn.take k ++ [rn[k]] := take_snoc' rn k hlt
      generalize rn[k] = y at hcn hT hyn
      have HTT := Lib.hid hT
      have e2 : (b : Int) < (g.length : Int) := by omega
      have e3 : (k : Int) < (rn.length : Int) := by omega
      clear e1 hT hnr
      by_cases hya : y = a
      · have hne : ((y : Int) != (a : Int)) = false := by rw [hya]; simp
        have HK : Hid ((rn.take (k + 1)).filter (fun x => x != a) = (rn.take k).filter (fun x => x != a)) := Lib.hid (by rw [HTT.out, List.filter_append]; simp [hya])
        clear hya
        go_wp2_with fail
        go_roundw
        case rel => exact ⟨k + 1, by omega, by go_num, by rw [HK.out]; exact HI.out⟩
        case measure => simp [intOf]; omega
      · have hne : ((y : Int) != (a : Int)) = true := bne_iff_ne.2 (by omega)
        have HK : Hid ((rn.take (k + 1)).filter (fun x => x != a) = (rn.take k).filter (fun x => x != a) ++ [y]) := Lib.hid (by rw [HTT.out, List.filter_append]; simp [hya])
        obtain ⟨T, hT⟩ : ∃ T, T = (rn.take k).filter (fun x => x != a) := ⟨_, rfl⟩
        rw [← hT] at HI HK
        have hlk : ∀ wz, Below wr.heap.size wr wz → Calls Tryd.prog 106 #[.agg #[.slice p g.length c], .int .i64 (a : Int), .int .i64 (y : Int)] wz fun e w' => e = .returned (.agg #[.slice p g.length c]) ∧ SG w' w2.heap.size (.agg #[.slice p g.length c]) (matG g.length (conI (ofG g) a (T ++ [y]))) ∧ wz.grownBy w' (Value.slice p g.length c).ownBlock := by
          intro wz hbz
          have hml := matG_length g.length (conI (ofG g) a T)
          have := l1Link_any p c (matG g.length (conI (ofG g) a T)) (a : Int) (y : Int) a y w2.heap.size rfl rfl (by omega) (by omega) (fun j _ => Nat.le_trans (matG_row_le j) (by omega)) wz (by rw [hml]; exact (HI.out.next hbz).sg)
          rw [hml, conI_link ha hyn (Ne.symm hya)] at this
          exact this
        have Hlk := Lib.hid hlk
        have cb := HI.out.box.cell
        have cf := HI.out.box.free
        clear hlk hT hya
        go_upto_region 10 with fail
        go_region_law (first | (go_simp; go_at_call 106; refine (Hlk.out _ (below_dN (Below.refl _ _) 1)).mono ?_; rintro e w6 ⟨rfl, hs6, hg6⟩; have HIN := Lib.hid (HI.out.next (below_dN (Below.refl _ _) 1)); have hbx := HIN.out.box.grown hg6 (fun e => by have := (HI.out.own _ e.symm).2; omega); have hc6 := hbx.cell; have hf6 := hbx.free; have HLN := Lib.hid (HIN.out.link hs6 hg6)))
        all_goals go_wp2
        all_goals go_roundw
        all_goals first
          | exact ⟨k + 1, by omega, by go_num, by rw [HK.out]; exact HLN.out⟩
          | exact ⟨k + 1, by omega, by go_num, by rw [HK.out]; exact HLN.out.next (below_dN (Below.refl _ _) _)⟩
          | (simp [intOf]; omega)
    · obtain rfl : k = rn.length := by omega
      rw [List.take_length, HALL.out] at HI
      have cb := HI.out.box.cell
      have HBW := Lib.hid (HB2.out.trans (HI.out.bel.mono HB2.out.size))
      have HGr := Lib.hid (HG2.out.below HI.out.bel)
      obtain ⟨nc, nf, nl, nB⟩ := HX1.out.keep HBW.out
      have szw := HBW.out.size
      have hne : w.heap.size ≠ w3.heap.size := by have := HI.out.b5; have := HSZ.out; omega
      have hne2 : w.heap.size + 1 ≠ w3.heap.size := by have := HI.out.b5; have := HSZ.out; omega
      have hne3 : w.heap.size + 1 ≠ w.heap.size := by omega
      have hne4 : w3.heap.size ≠ w.heap.size + 1 := by omega
      clear hnr
      go_wp2_with fail
      clear hcr
      go_region_held3 (fun W => W.cell? ⟨w3.heap.size, 0, none⟩ = some (.slice p g.length c) ∧ W.cell? ⟨w.heap.size, 0, none⟩ = some (.slice (some ⟨rb, ro, none⟩) g.length gc))
        (first | exact ⟨cb, c0⟩ | go_keep | exact ⟨BWD.at' cb, BWD.at' c0⟩ | exact ⟨BWC.at' cb, BWC.at' c0⟩ | exact ⟨BWB.at' cb, BWB.at' c0⟩ | exact ⟨BWA.at' cb, BWA.at' c0⟩ | exact ⟨(World.cell?_setCell_far _ _ _ _ hne2).trans (BWD.at' cb), (World.cell?_setCell_far _ _ _ _ hne3).trans (BWD.at' c0)⟩)
        (first
          | (go_at_call 75; refine (l1Size_any _ g _ (HGr.out.below (below_dN (Below.refl _ _) 1))).mono ?_; rintro e wa ⟨rfl, hbq⟩; have BWA : Below wr.heap.size wr wa := (below_dN (Below.refl _ _) 1).trans hbq; clear hbq)
          | (go_at_call 108; refine (l1All_any _ g.length rfl (by omega) _).mono ?_; rintro e wb ⟨av, rfl, ho, hbq⟩; have HNA : Hid (Nums wb 2 .i64 av (natInts (List.range g.length))) := Lib.hid (Nums.of_owns ho (by rw [natInts_length, List.length_range]) (by omega)); have BWB : Below wr.heap.size wr wb := BWA.trans (hbq.mono BWA.size); clear hbq ho)
          | (go_at_call 103; refine (l2Without_any _ (List.range g.length) _ b rfl (by rw [List.length_range]; omega) _ HNA.out).mono ?_; rintro e wc ⟨lv, rfl, ho, hbq⟩; rw [HRE.out] at ho; have HNL : Hid (Nums wc 2 .i64 lv (natInts (restN g.length b))) := Lib.hid (Nums.of_owns ho (by rw [natInts_length]) (by have := HRL.out; omega)); have BWC : Below wr.heap.size wr wc := BWB.trans (hbq.mono BWB.size); clear hbq ho)
          | (go_at_call 107; refine (l2Of_any _ _ (matG g.length (conE (ofG g) a b)) (natInts (restN g.length b)) HLT.out (by rw [natInts_length]; have := HRL.out; omega) HSY.out _ ((HI.out.next BWC).sg.gr (by rw [matG_length]; omega)) HNL.out).mono ?_; rintro e wd ⟨u, rfl, hs, hbq⟩; obtain ⟨up, uc, rfl⟩ := hs.shape; have HSD := Lib.hid hs; have BWD : Below wr.heap.size wr wd := BWC.trans (hbq.mono BWC.size); have nc4 := BWD.at' nc; have nB4 := (Box.keep ⟨nc, nf, nl, nB⟩ BWD); have nf4 := nB4.free; clear hbq hs))
      all_goals go_wp2
      have e0 := HBA.out.size
      refine bodyPost_ret (v := .tuple #[.agg #[.slice up (indL (matG g.length (conE (ofG g) a b)) (natInts (restN g.length b))).length uc], .bool true]) (by simp [results, Tryd.results38, go_sem, nc4]) rfl ⟨_, rfl, (HSD.out.setBox nB4 _).base (by have := BWC.size; omega), ?_⟩
      exact ((HBA.out.trans (HBW.out.mono e0)).trans (BWD.mono (by omega))).setCell (by show w.heap.size ≤ w.heap.size + 1; omega) _

end Go.Proofs.YtiooindlpinjhaaDoor
