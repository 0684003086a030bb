/- Walk: the reference's CutVertex, of a right graph of two vertices at least. -/
import Derived.Test.YtkppbmfliejnmaaDoorLpQ25
import Derived.Test.YtkppbmfliejnmaaDoorLpQ27
import Derived.Test.YtkppbmfliejnmaaDoorLpQ10
import Derived.Test.YtkppbmfliejnmaaDoorLpQ29
import Derived.Test.YtkppbmfliejnmaaDoorLpQ4
import Derived.Test.YtkppbmfliejnmaaDoorLpQ6
import Derived.Deep.RegionHeld3
import Derived.Deep.DeepCutAuto
import Derived.Deep.RegionLaw
namespace Go.Proofs.YtkppbmfliejnmaaDoor
open Go.RowKit

set_option maxRecDepth 100000 in
theorem l1ThereM_any (v : Value) (g : List (List Int)) (x : Int) (w : World) (hg : Gr w v g) (hn : g.length ≤ 1000000000) :
    Calls Tryd.prog 108 #[v, .int .i64 x] w fun e w' => e = .returned (.bool (dec (0 ≤ x ∧ x < g.length))) ∧ Below w.heap.size w w' := by
  have hg0 := hg
  obtain ⟨u, rfl, hr⟩ := hg
  obtain ⟨p, c, rfl, _⟩ := hr.shape
  have hbA := Lib.hid (below_alloc w (.cells #[.slice p g.length c] 29))
  have HG := Lib.hid (hg0.below hbA.out)
  clear hr hg0
  go_enter Tryd.func108, Tryd.ntmps108
  go_wp2_with (first
    | (go_at_call 153; refine (l1In_any _ _ _ _).mono ?_; rintro e w3 ⟨rfl, rfl⟩)
    | (go_at_call 132; refine (l1Size_any _ g _ HG.out).mono ?_; rintro e w2 ⟨rfl, hb2⟩))
  go_ret
  exact ⟨ret_bool (dec_congr (by omega)), hbA.out.trans (hb2.mono hbA.out.size)⟩

theorem gok_rowsMn {g : List (List Int)} (hok : GOk g) (j : Nat) : (row g j).length ≤ 16 := by
  have h16 := hok.le
  by_cases hj : j < g.length
  · have := setIn_length (by omega) (hok.sets j hj).1
    omega
  · have : row g j = [] := by simp [row, List.getElem?_eq_none (show g.length ≤ j by omega)]
    rw [this]; exact Nat.zero_le _
set_option maxRecDepth 100000 in
set_option maxHeartbeats 1000000 in
theorem l2Without_any (v : Value) (L : List Nat) (z : Int) (y : Nat) (hz : z = y) (hl : L.length ≤ 1000) (w : World) (hn : Nums w 2 .i64 v (natInts L)) :
    Calls Tryd.prog 142 #[v, .int .i64 z] w fun e w' => ∃ u, e = .returned u ∧ w'.ownsRow w.heap.size 2 1 u (L.filter fun x => x != y).length ((natInts (L.filter fun x => x != y)).map (Value.int .i64)) ∧ Below w.heap.size w w' := by
  subst hz
  obtain ⟨lp, lc, rfl, _⟩ := id hn.shape
  rw [natInts_length]
  have HN := Lib.hid hn
  have START := Lib.hid (ownsRow_empty w 2 1)
  clear hn
  go_enter Tryd.func142, Tryd.ntmps142
  go_wp2_with fail
  go_loopw [5, 6] (fun ov iv wr => ∃ k : Nat, k ≤ L.length ∧ iv = .int .i64 k ∧ wr.ownsRow w.heap.size 2 1 ov ((L.take k).filter fun x => x != y).length ((natInts ((L.take k).filter fun x => x != y)).map (Value.int .i64)) ∧ Below w.heap.size w wr) (fun _ iv _ => L.length - (intOf iv).toNat)
  case atStart => exact ⟨0, Nat.zero_le _, rfl, START.out, below_alloc _ _⟩
  case round =>
    clear START
    obtain ⟨k, hk, rfl, hown, hb⟩ := hrel
    have HO := Lib.hid hown
    have HB := Lib.hid hb
    by_cases hlt : k < L.length
    · obtain ⟨qb, qo, rfl, hq⟩ := Nums.get (k := k) (by have := HN.out.below hb; rw [natInts_length] at this; exact this) (by rw [natInts_length]; exact hlt)
      have e1 : (natInts L)[k]'(by rw [natInts_length]; exact hlt) = ((L[k] : Nat) : Int) := by simp [natInts]
      rw [e1] at hq
      have hT : L.take (k + 1) = L.take k ++ [L[k]] := take_snoc' L k hlt
      generalize L[k] = x at hq hT
      obtain ⟨F, hF⟩ : ∃ F, F = (L.take k).filter fun x => x != y := ⟨_, rfl⟩
      have hFl : F.length ≤ 1000 := by
        rw [hF]
        have := List.length_filter_le (fun x => x != y) (L.take k)
        rw [List.length_take] at this
        omega
      rw [← hF] at HO
      have HFE := Lib.hid hF
      obtain ⟨fl, hfl⟩ : ∃ fl, fl = F.length := ⟨_, rfl⟩
      have HFL := Lib.hid hfl
      rw [← hfl] at HO hFl
      have HT := Lib.hid hT
      clear hown hb e1 hT hF hfl
      by_cases hxy : x = y
      · have hne : ((x : Int) != (y : Int)) = false := by rw [hxy]; simp
        have HK : Hid ((L.take (k + 1)).filter (fun x => x != y) = F) := Lib.hid (by rw [HT.out, List.filter_append, HFE.out]; simp [hxy])
        clear hxy
        go_wp2_with fail
        go_roundw
        case rel => exact ⟨k + 1, by omega, by go_num, by rw [HK.out, ← HFL.out]; exact HO.out, HB.out⟩
        case measure => simp [intOf]; omega
      · have hne : ((x : Int) != (y : Int)) = true := bne_iff_ne.2 (by omega)
        have HK : Hid ((L.take (k + 1)).filter (fun x => x != y) = F ++ [x]) := Lib.hid (by rw [HT.out, List.filter_append, HFE.out]; simp [hxy])
        clear hxy
        go_wp2_with (at_builtin; refine wpList_app1s ty_i64 rfl rfl rfl HO.out rfl rfl (by omega) HB.out.size ?_; intro b7 c7 w7 hown7 hg7 _)
        go_roundw
        case rel => exact ⟨k + 1, by omega, by go_num, by rw [HK.out, List.length_append, ← HFL.out]; simpa [natInts] using hown7, below_grown HB.out HO.out hg7 (Nat.le_refl _) HB.out.size⟩
        case measure => simp [intOf]; omega
    · obtain rfl : k = L.length := by omega
      rw [List.take_length] at HO
      clear hown hb
      go_wp2_with fail
      go_ret
      exact ⟨_, rfl, HO.out, HB.out⟩

set_option maxRecDepth 100000 in
set_option maxHeartbeats 4000000 in
theorem specCutVertex_yes (v : Value) (g : List (List Int)) (z : Int) (b : Nat) (hz : z = b) (hok : GOk g) (hb : b < g.length) (h2 : 2 ≤ g.length) (w : World) (hg : Gr w v g) :
    Calls Tryd.prog 58 #[v, .int .i64 z] w fun e w' => ∃ u, e = .returned (.tuple #[u, .bool true]) ∧ SG w' w.heap.size u (indL g (natInts (restN g.length b))) ∧ Below w.heap.size w w' := by
  subst hz
  have hg0 := hg
  obtain ⟨u, rfl, hr⟩ := hg
  obtain ⟨p, c, rfl, _⟩ := hr.shape
  obtain ⟨W0, hW0, hbA, SZ0, B0, B1⟩ := two_boxesM w (.slice p g.length c) (.slice none 0 0) 29 29
  have HBA := Lib.hid hbA
  have HG := Lib.hid (hg0.below hbA)
  have HX0 := Lib.hid B0
  have HX1 := Lib.hid B1
  have h16 := hok.le
  have HD := Lib.hid (dec_true hok)
  have HDB := Lib.hid (dec_true (show (0 : Int) ≤ (b : Int) ∧ (b : Int) < g.length from ⟨by omega, by omega⟩))
  have hn1 : ((g.length : Int) == 1) = false := beq_eq_false_iff_ne.2 (by omega)
  have hsym := indE_sym hok (l := natInts (restN g.length b)) fun x hx => by
    obtain ⟨i, hi, rfl⟩ := mem_natInts.1 hx
    have := (mem_restN.1 hi).1
    omega
  have HSY := Lib.hid hsym
  have HLT : Hid (∀ x ∈ natInts (restN g.length b), 0 ≤ x ∧ x < g.length) := Lib.hid (fun x hx => by
    obtain ⟨i, hi, rfl⟩ := mem_natInts.1 hx
    have := (mem_restN.1 hi).1
    omega)
  have HRE : Hid ((List.range g.length).filter (fun x => x != b) = restN g.length b) := Lib.hid rfl
  have HRL : Hid ((restN g.length b).length ≤ 16) := Lib.hid (Nat.le_trans (List.length_filter_le _ _) (by rw [List.length_range]; exact h16))
  clear hr hg0 hok hbA B0 B1 hsym SZ0
  go_enter Tryd.func58, Tryd.ntmps58
  go_upto_region 1 with fail
  rw [← hW0]
  clear hW0
  have c0 := HX0.out.cell
  go_upto_region 3 with (first
    | (go_at_call 73; refine (specGraphOk_any _ g _ HG.out).mono ?_; rintro e w2 ⟨he, hb2⟩; rw [HD.out] at he; subst he; have c2 := hb2.at' c0)
    | (go_at_call 108; refine (l1ThereM_any _ g (b : Int) _ (HG.out.below hb2) (by omega)).mono ?_; rintro e w3 ⟨he, hb3⟩; rw [HDB.out] at he; subst he; have c3 := hb3.at' c2)
    | (go_at_call 132; refine (l1Size_any _ g _ ((HG.out.below hb2).below hb3)).mono ?_; rintro e w4 ⟨rfl, hb4⟩; have c4 := hb4.at' c3))
  have HB4 : Hid (Below W0.heap.size W0 w4) := Lib.hid ((hb2.trans (hb3.mono hb2.size)).trans (hb4.mono (Nat.le_trans hb2.size hb3.size)))
  have HG4 := Lib.hid (HG.out.below HB4.out)
  obtain ⟨nc, nf, nl, nB⟩ := HX1.out.keep HB4.out
  have cr := c4
  have nlt := HX1.out.lt
  have s4 := HB4.out.size
  clear hb2 hb3 hb4 c0 c2 c3 hn1 c4
  go_region_held3 (fun W => W.cell? ⟨w.heap.size, 0, none⟩ = some (.slice p g.length c))
    (first | exact cr | go_keep | exact BWD.at' cr | exact BWC.at' cr | exact BWB.at' cr | exact BWA.at' cr | exact (World.cell?_setCell_far _ _ _ _ (by show w.heap.size + 1 ≠ w.heap.size; omega)).trans (BWD.at' cr))
    (first
      | (go_at_call 132; refine (l1Size_any _ g _ (HG4.out.below (below_dN (Below.refl _ _) 1))).mono ?_; rintro e wa ⟨rfl, hbq⟩; have BWA : Below w4.heap.size w4 wa := (below_dN (Below.refl _ _) 1).trans hbq; clear hbq)
      | (go_at_call 143; refine (l1All_any _ g.length rfl (by omega) _).mono ?_; rintro e wb ⟨av, rfl, ho, hbq⟩; have HNA : Hid (Nums wb 2 .i64 av (natInts (List.range g.length))) := Lib.hid (Nums.of_owns ho (by rw [natInts_length, List.length_range]) (by omega)); have BWB : Below w4.heap.size w4 wb := BWA.trans (hbq.mono BWA.size); clear hbq ho)
      | (go_at_call 142; refine (l2Without_any _ (List.range g.length) _ b rfl (by rw [List.length_range]; omega) _ HNA.out).mono ?_; rintro e wc ⟨lv, rfl, ho, hbq⟩; rw [HRE.out] at ho; have HNL : Hid (Nums wc 2 .i64 lv (natInts (restN g.length b))) := Lib.hid (Nums.of_owns ho (by rw [natInts_length]) (by have := HRL.out; omega)); have BWC : Below w4.heap.size w4 wc := BWB.trans (hbq.mono BWB.size); clear hbq ho)
      | (go_at_call 107; refine (l2Of_any _ _ g (natInts (restN g.length b)) HLT.out (by rw [natInts_length]; have := HRL.out; omega) HSY.out _ (HG4.out.below BWC) HNL.out).mono ?_; rintro e wd ⟨u, rfl, hs, hbq⟩; obtain ⟨up, uc, rfl⟩ := hs.shape; have HSD := Lib.hid hs; have BWD : Below w4.heap.size w4 wd := BWC.trans (hbq.mono BWC.size); have nc4 := BWD.at' nc; have nB4 := (Box.keep ⟨nc, nf, nl, nB⟩ BWD); have nf4 := nB4.free; clear hbq hs))
  all_goals go_wp2
  have e0 := HBA.out.size
  refine bodyPost_ret (v := .tuple #[.agg #[.slice up (indL g (natInts (restN g.length b))).length uc], .bool true]) (by simp [results, Tryd.results58, go_sem, nc4]) rfl ⟨_, rfl, (HSD.out.setBox nB4 _).base (by have := BWC.size; omega), ?_⟩
  exact ((HBA.out.trans (HB4.out.mono e0)).trans (BWD.mono (by omega))).setCell (by show w.heap.size ≤ w.heap.size + 1; omega) _

end Go.Proofs.YtkppbmfliejnmaaDoor

/- Walks: an order of the vertices, of the reference. -/
namespace Go.Proofs.YtkppbmfliejnmaaDoor
open Go.RowKit

set_option maxRecDepth 100000 in
theorem l1There_any (v : Value) (g : List (List Int)) (x : Int) (w : World) (hg : Gr w v g) (hn : g.length ≤ 1000000000) :
    Calls Tryd.prog 108 #[v, .int .i64 x] w fun e w' => e = .returned (.bool (dec (0 ≤ x ∧ x < g.length))) ∧ Below w.heap.size w w' := by
  have hg0 := hg
  obtain ⟨u, rfl, hr⟩ := hg
  obtain ⟨p, c, rfl, _⟩ := hr.shape
  have hbA := Lib.hid (below_alloc w (.cells #[.slice p g.length c] 29))
  have HG := Lib.hid (hg0.below hbA.out)
  clear hr hg0
  go_enter Tryd.func108, Tryd.ntmps108
  go_wp2_with (first
    | (go_at_call 153; refine (l1In_any _ _ _ _).mono ?_; rintro e w3 ⟨rfl, rfl⟩)
    | (go_at_call 132; refine (l1Size_any _ g _ HG.out).mono ?_; rintro e w2 ⟨rfl, hb2⟩))
  go_ret
  exact ⟨ret_bool (dec_congr (by omega)), hbA.out.trans (hb2.mono hbA.out.size)⟩

set_option maxRecDepth 100000 in
set_option maxHeartbeats 4000000 in
theorem l1Order_any (v lv : Value) (g : List (List Int)) (l : List Int) (hgl : g.length ≤ 1000000000) (w : World) (hg : Gr w v g) (hn : Nums w 2 .i64 lv l) :
    Calls Tryd.prog 203 #[v, lv] w fun e w' => e = .returned (.bool (dec (OrdOk g.length l))) ∧ Below w.heap.size w w' := by
  have hg0 := hg
  obtain ⟨u, rfl, hr⟩ := hg
  obtain ⟨p, c, rfl, _⟩ := hr.shape
  obtain ⟨lp, lc, rfl, hlp, hlc, hll, _⟩ := id hn.shape
  have hbA := Lib.hid (below_alloc w (.cells #[.slice p g.length c] 29))
  have BX := Lib.hid (Box.new w (.slice p g.length c) 29)
  have HG := Lib.hid (hg0.below hbA.out)
  have HN := Lib.hid (hn.below hbA.out)
  clear hr hg0 hn hlp
  by_cases hlen : l.length = g.length
  case neg =>
    have hne : ((l.length : Int) != (g.length : Int)) = true := by simp; omega
    go_enter Tryd.func203, Tryd.ntmps203
    go_wp2_with (go_at_call 132; refine (l1Size_any _ g _ HG.out).mono ?_; rintro e w2 ⟨rfl, hb2⟩)
    go_ret
    exact ⟨ret_bool (false_dec fun h => hlen h.1), hbA.out.trans (hb2.mono hbA.out.size)⟩
  have hne : ((l.length : Int) != (g.length : Int)) = false := by simp; omega
  have Hlen := Lib.hid hlen
  clear hlen
  go_enter Tryd.func203, Tryd.ntmps203
  go_wp2_with (go_at_call 132; refine (l1Size_any _ g _ HG.out).mono ?_; rintro e w2 ⟨rfl, hb2⟩)
  have HB2 := Lib.hid hb2
  have hsA := hbA.out.size
  clear hb2
  go_loopw [5] (fun i wr => ∃ k : Nat, k ≤ l.length ∧ i = .int .i64 k ∧ (∀ x ∈ l.take k, 0 ≤ x ∧ x < g.length) ∧ (l.take k).Nodup ∧ Below (w.alloc (.cells #[.slice p g.length c] 29)).heap.size (w.alloc (.cells #[.slice p g.length c] 29)) wr) (fun i _ => l.length - (intOf i).toNat)
  case atStart => exact ⟨0, Nat.zero_le _, rfl, by simp, by simp, HB2.out⟩
  case round =>
    obtain ⟨k, hk, rfl, hin, hnd, hbel⟩ := hrel
    have Hin := Lib.hid hin
    have Hnd := Lib.hid hnd
    have HBw := Lib.hid (hbA.out.trans (hbel.mono hsA))
    clear hin hnd
    by_cases hlt : k < l.length
    · have hn' := Lib.hid (HN.out.below hbel)
      obtain ⟨b, o, rfl, hc⟩ := hn'.out.get hlt
      have hbx := (BX.out.keep hbel).cell
      have hGr := Lib.hid (HG.out.below hbel)
      have hpre : Hid (Nums wr 2 .i64 (.slice (some ⟨b, o, none⟩) k lc) (l.take k)) := by
        obtain ⟨_, _, e1, _, _, _, hat⟩ := id hn'.out.shape
        cases e1
        have hlk : (l.take k).length = k := by rw [List.length_take]; omega
        refine Lib.hid ⟨_, _, by rw [hlk], (fun e => by cases e), by omega, by omega, ?_⟩
        rw [List.map_take]
        exact hat.take k
      have hx := Lib.hid (take_snoc l k hlt)
      have e0 : (0 : Int) ≤ (k : Int) := by omega
      have e1 : (k : Int) ≤ (lc : Int) := by omega
      have e2 : k ≤ lc := by omega
      have HBel := Lib.hid hbel
      clear hbel
      generalize hX : l[k] = X at hc hx
      by_cases hX1 : 0 ≤ X ∧ X < g.length
      case neg =>
        have hd := dec_false hX1
        have HX1 := Lib.hid hX1
        have hmem : Hid (X ∈ l) := Lib.hid (hX ▸ List.getElem_mem hlt)
        clear hX1 hX
        go_upto_region 6 with fail
        go_cut [33] (fun s wx => s = .bool true ∧ Below wr.heap.size wr wx)
        case first =>
          refine wp_region_held_drew (S := fun w' => w'.cell? ⟨w.heap.size, 0, none⟩ = some (.slice p g.length c) ∧ w'.cell? ⟨b, o + k, none⟩ = some (.int .i64 X)) (by kernel_rfl) ?_ (fun hHeld => ?_)
          · exact ⟨hbx, hc⟩
          refine wpAnyH_take (i := 0) (v := .agg #[.slice p g.length c]) rfl (by kernel_rfl) (by kernel_rfl) (by kernel_rfl) (fun _ _ _ h => h) (Or.inl ⟨by rfl, ?_⟩) (by assumption) ?_
          · intro wz hSw; (try dsimp only at hSw); go_simp; try rfl
          try simp only [Act.put, List.setIfInBounds_toArray, List.set_cons_zero, List.set_cons_succ]
          refine wpAnyH_take (i := 1) (v := .slice (some ⟨b, o, none⟩) l.length lc) rfl (by kernel_rfl) (by kernel_rfl) (by kernel_rfl) (fun _ _ _ h => h) (Or.inl ⟨by rfl, ?_⟩) (by assumption) ?_
          · intro wz hSw; (try dsimp only at hSw); go_simp; try rfl
          try simp only [Act.put, List.setIfInBounds_toArray, List.set_cons_zero, List.set_cons_succ]
          refine wpAnyH_take (i := 2) (v := .int .i64 k) rfl (by kernel_rfl) (by kernel_rfl) (by kernel_rfl) (fun _ _ _ h => h) (Or.inl ⟨by rfl, ?_⟩) (by assumption) ?_
          · intro wz hSw; (try dsimp only at hSw); go_simp; try rfl
          try simp only [Act.put, List.setIfInBounds_toArray, List.set_cons_zero, List.set_cons_succ]
          refine wpAnyH_take (i := 3) (v := .pointer (some ⟨b, o + k, none⟩)) rfl (by kernel_rfl) (by kernel_rfl) (by kernel_rfl) (fun _ _ _ h => h) (Or.inl ⟨by rfl, ?_⟩) (by assumption) ?_
          · intro wz hSw; (try dsimp only at hSw); go_simp; try rfl
          try simp only [Act.put, List.setIfInBounds_toArray, List.set_cons_zero, List.set_cons_succ]
          refine wpAnyH_take (i := 4) (v := .int .i64 X) rfl (by kernel_rfl) (by kernel_rfl) (by kernel_rfl) (fun _ _ _ h => h) (Or.inl ⟨by rfl, ?_⟩) (by assumption) ?_
          · intro wz hSw; (try dsimp only at hSw); go_simp; try rfl
          try simp only [Act.put, List.setIfInBounds_toArray, List.set_cons_zero, List.set_cons_succ]
          refine wpAnyH_ready (rs := [5]) (by kernel_rfl) (by simp) ?_
          refine AllReadyH.cons rfl (fun K hK => ?_) AllReadyH.nil
          go_simp
          go_at_call 108
          refine (l1There_any _ g X _ (hGr.out.below (below_dN (Below.refl _ _) 1)) hgl).mono ?_
          rintro e w4 ⟨he4, hb4⟩
          rw [hd] at he4
          subst he4
          have hb4' : Below wr.heap.size wr w4 := (below_dN (Below.refl _ _) 1).trans hb4
          refine hK.out _ _ ?_ (fun hHeld => ?_)
          · exact ⟨hb4'.at' hbx, hb4'.at' hc⟩
          clear hK K
          try simp only [Act.put, List.setIfInBounds_toArray, List.set_cons_zero, List.set_cons_succ]
          refine wpAnyH_take (i := 6) (v := .bool true) rfl (by kernel_rfl) (by kernel_rfl) (by kernel_rfl) (fun _ _ _ h => h) (Or.inl ⟨by rfl, ?_⟩) (by assumption) ?_
          · intro wz hSw; (try dsimp only at hSw); go_simp; try rfl
          try simp only [Act.put, List.setIfInBounds_toArray, List.set_cons_zero, List.set_cons_succ]
          refine wpAnyH_take (i := 7) (v := .bool true) rfl (by kernel_rfl) (by kernel_rfl) (by kernel_rfl) (fun _ _ _ h => h) (Or.inl ⟨by rfl, ?_⟩) (by assumption) ?_
          · intro wz hSw; (try dsimp only at hSw); go_simp; try rfl
          try simp only [Act.put, List.setIfInBounds_toArray, List.set_cons_zero, List.set_cons_succ]
          refine wpAnyH_take (i := 8) (v := undef) rfl (by kernel_rfl) (by kernel_rfl) (by kernel_rfl) (fun _ _ _ h => h) (Or.inr ⟨by kernel_rfl, rfl⟩) (by assumption) ?_
          try simp only [Act.put, List.setIfInBounds_toArray, List.set_cons_zero, List.set_cons_succ]
          refine wpAnyH_take (i := 9) (v := undef) rfl (by kernel_rfl) (by kernel_rfl) (by kernel_rfl) (fun _ _ _ h => h) (Or.inr ⟨by kernel_rfl, rfl⟩) (by assumption) ?_
          try simp only [Act.put, List.setIfInBounds_toArray, List.set_cons_zero, List.set_cons_succ]
          refine wpAnyH_take (i := 10) (v := undef) rfl (by kernel_rfl) (by kernel_rfl) (by kernel_rfl) (fun _ _ _ h => h) (Or.inr ⟨by kernel_rfl, rfl⟩) (by assumption) ?_
          try simp only [Act.put, List.setIfInBounds_toArray, List.set_cons_zero, List.set_cons_succ]
          refine wpAnyH_take (i := 11) (v := undef) rfl (by kernel_rfl) (by kernel_rfl) (by kernel_rfl) (fun _ _ _ h => h) (Or.inr ⟨by kernel_rfl, rfl⟩) (by assumption) ?_
          try simp only [Act.put, List.setIfInBounds_toArray, List.set_cons_zero, List.set_cons_succ]
          refine wpAnyH_take (i := 12) (v := undef) rfl (by kernel_rfl) (by kernel_rfl) (by kernel_rfl) (fun _ _ _ h => h) (Or.inr ⟨by kernel_rfl, rfl⟩) (by assumption) ?_
          try simp only [Act.put, List.setIfInBounds_toArray, List.set_cons_zero, List.set_cons_succ]
          refine wpAnyH_take (i := 13) (v := undef) rfl (by kernel_rfl) (by kernel_rfl) (by kernel_rfl) (fun _ _ _ h => h) (Or.inr ⟨by kernel_rfl, rfl⟩) (by assumption) ?_
          try simp only [Act.put, List.setIfInBounds_toArray, List.set_cons_zero, List.set_cons_succ]
          refine wpAnyH_take (i := 14) (v := undef) rfl (by kernel_rfl) (by kernel_rfl) (by kernel_rfl) (fun _ _ _ h => h) (Or.inr ⟨by kernel_rfl, rfl⟩) (by assumption) ?_
          try simp only [Act.put, List.setIfInBounds_toArray, List.set_cons_zero, List.set_cons_succ]
          refine wpAnyH_take (i := 15) (v := undef) rfl (by kernel_rfl) (by kernel_rfl) (by kernel_rfl) (fun _ _ _ h => h) (Or.inr ⟨by kernel_rfl, rfl⟩) (by assumption) ?_
          simp only [Act.put, List.getElem_toArray, List.getElem_cons_succ, List.getElem_cons_zero, List.setIfInBounds_toArray, List.set_cons_zero, List.set_cons_succ]
          refine wpAnyH_take (i := 16) (v := .bool true) rfl (by kernel_rfl) (by kernel_rfl) (by kernel_rfl) (fun _ _ _ h => h) (Or.inl ⟨by rfl, ?_⟩) (by assumption) ?_
          · intro wz hSw; (try dsimp only at hSw); go_simp; try rfl
          simp only [Act.put, List.getElem_toArray, List.getElem_cons_succ, List.getElem_cons_zero, List.setIfInBounds_toArray, List.set_cons_zero, List.set_cons_succ]
          refine wpAnyH_done (by kernel_rfl) ?_ _
          go_wp2
          go_meet
          exact ⟨by kernel_rfl, hb4'⟩
        case rest =>
          obtain ⟨rfl, hbc⟩ := hcut
          go_wp2
          go_ret
          exact ⟨ret_bool (false_dec fun h => HX1.out (h.2.1 _ hmem.out)), HBw.out.trans (hbc.mono HBw.out.size)⟩
      have hd := dec_true hX1
      have HX1 := Lib.hid hX1
      clear hX1
      by_cases hX2 : X ∈ l.take k
      case pos =>
        have hd2 := dec_true hX2
        have hnot : Hid (¬ l.Nodup) := Lib.hid (fun h => by
          have h1 : (l.take (k + 1)).Nodup := h.sublist (List.take_sublist _ _)
          rw [hx.out] at h1
          exact (nodup_snoc.1 h1).2 hX2)
        clear hX2 hX
        go_upto_region 6 with fail
        go_cut [33] (fun s wx => s = .bool true ∧ Below wr.heap.size wr wx)
        case first =>
          go_region_held3 (fun w' => w'.cell? ⟨w.heap.size, 0, none⟩ = some (.slice p g.length c) ∧ w'.cell? ⟨b, o + k, none⟩ = some (.int .i64 X))
            (first | go_keep | exact ⟨hb4'.at' hbx, hb4'.at' hc⟩)
            (first | (go_at_call 108; refine (l1There_any _ g X _ (hGr.out.below (below_dN (Below.refl _ _) 1)) hgl).mono ?_; rintro e w4 ⟨he4, hb4⟩; rw [hd] at he4; subst he4; have hb4' : Below wr.heap.size wr w4 := (below_dN (Below.refl _ _) 1).trans hb4) | (go_at_call 158; refine (l1Has_any _ _ X _ (hpre.out.below hb4')).mono ?_; rintro e w5 ⟨he5, rfl⟩; rw [hd2] at he5; subst he5))
          all_goals go_wp2
          all_goals go_meet
          all_goals exact ⟨rfl, hb4'⟩
        case rest =>
          obtain ⟨rfl, hbc⟩ := hcut
          go_wp2
          go_ret
          exact ⟨ret_bool (false_dec fun h => hnot.out h.2.2), HBw.out.trans (hbc.mono HBw.out.size)⟩
      case neg =>
        have hd2 := dec_false hX2
        have HX2 := Lib.hid hX2
        clear hX2 hX
        go_upto_region 6 with fail
        go_cut [33] (fun s wx => s = .bool false ∧ Below wr.heap.size wr wx)
        case first =>
          go_region_held3 (fun w' => w'.cell? ⟨w.heap.size, 0, none⟩ = some (.slice p g.length c) ∧ w'.cell? ⟨b, o + k, none⟩ = some (.int .i64 X))
            (first | go_keep | exact ⟨hb4'.at' hbx, hb4'.at' hc⟩)
            (first | (go_at_call 108; refine (l1There_any _ g X _ (hGr.out.below (below_dN (Below.refl _ _) 1)) hgl).mono ?_; rintro e w4 ⟨he4, hb4⟩; rw [hd] at he4; subst he4; have hb4' : Below wr.heap.size wr w4 := (below_dN (Below.refl _ _) 1).trans hb4) | (go_at_call 158; refine (l1Has_any _ _ X _ (hpre.out.below hb4')).mono ?_; rintro e w5 ⟨he5, rfl⟩; rw [hd2] at he5; subst he5))
          all_goals go_wp2
          all_goals go_meet
          all_goals exact ⟨rfl, hb4'⟩
        case rest =>
          obtain ⟨rfl, hbc⟩ := hcut
          go_wp2
          go_roundw
          case rel =>
            have hbel' := HBel.out
            refine ⟨k + 1, by omega, by go_num, ?_, ?_, hbel'.trans (hbc.mono hbel'.size)⟩
            · rw [hx.out]
              intro x hxm
              rcases List.mem_append.1 hxm with h | h
              · exact Hin.out x h
              · simp only [List.mem_singleton] at h; subst h; exact HX1.out
            · rw [hx.out]
              exact nodup_snoc.2 ⟨Hnd.out, HX2.out⟩
          case measure => simp [intOf]; omega
    · obtain rfl : k = l.length := by omega
      go_wp2
      go_ret
      have h1 := Hin.out
      have h2 := Hnd.out
      rw [List.take_length] at h1 h2
      exact ⟨ret_bool (true_dec ⟨Hlen.out, h1, h2⟩), HBw.out⟩


end Go.Proofs.YtkppbmfliejnmaaDoor
