/- Walk: the reference's bridges. -/
import Derived.Test.YtilklahopjjhmaaDoorCutA
import Derived.Test.YtilklahopjjhmaaDoorEdB
import Derived.Deep.RegionHeld3
import Derived.Deep.DeepCutAuto
namespace Go.Proofs.YtilklahopjjhmaaDoor
open Go.RowKit

set_option maxRecDepth 100000 in
set_option maxHeartbeats 4000000 in
theorem l19Bridges_any (v : Value) (g : List (List Int)) (hok : GOk g) (w : World) (hg : Gr w v g) :
    Calls Tryd.prog 33 #[v] w fun e w' => ∃ u : Value, e = .returned u ∧ PrsO w' w.heap.size u (brdL g.length (ofG g) (edN g.length (ofG g) g.length)) ∧ Below w.heap.size w w' := by
  have hg0 := hg
  obtain ⟨u, rfl, hr⟩ := hg
  obtain ⟨p, c, rfl, _⟩ := hr.shape
  have h16 := hok.le
  have hbA := below_alloc w (.cells #[.slice p g.length c] 30)
  have HB := Lib.hid hbA
  have BX := Lib.hid ((Box.new w (.slice p g.length c) 30).alloc (.cells #[] 27))
  have H2 := Lib.hid (gOk_row_le hok)
  have HOK := Lib.hid hok
  have HR := Lib.hid hr
  have HG := Lib.hid hg0
  have HC : Hid (∀ k, k ≤ g.length → (brdL g.length (ofG g) (edN g.length (ofG g) k)).length ≤ 256) := Lib.hid fun k hk => by
    have := edN_length g.length (ofG g) k
    have : k * g.length ≤ 16 * 16 := Nat.mul_le_mul (by omega) h16
    have := brdL_length g.length (ofG g) (edN g.length (ofG g) k)
    omega
  have HCN : Hid (∀ k, k ≤ g.length → (edN g.length (ofG g) k).length ≤ 256) := Lib.hid fun k hk => by
    have := edN_length g.length (ofG g) k
    have : k * g.length ≤ 16 * 16 := Nat.mul_le_mul (by omega) h16
    omega
  have HRA : Hid (∀ j, (row g j).length ≤ 16) := Lib.hid fun j => by
    by_cases h : j < g.length
    · have := gOk_row_le hok j h; omega
    · simp [row, show g.length ≤ j by omega]
  clear hr hg0 hbA hok
  go_enter Tryd.func33, Tryd.ntmps33
  go_wp2
  go_loopw [3, 4] (fun u i wr => ∃ k : Nat, k ≤ g.length ∧ i = .int .i64 k ∧ PrsO wr (w.heap.size + 1) u (brdL g.length (ofG g) (edN g.length (ofG g) k)) ∧ Below w.heap.size w wr ∧ Box wr w.heap.size 30 (.slice p g.length c))
    (fun _ i _ => g.length - (intOf i).toNat)
  case atStart => exact ⟨0, Nat.zero_le _, rfl, by have := PrsO.nil (w.alloc (.cells #[.slice p g.length c] 30)) (w.heap.size + 1) (by rw [size_alloc]; omega); rw [size_alloc] at this; exact this, HB.out.alloc HB.out.size _, BX.out⟩
  case round =>
    obtain ⟨k, hk, rfl, hown, hbel, hbx⟩ := hrel
    obtain ⟨outp, outc, rfl⟩ := hown.shape
    have hc := hbx.cell
    have START := Lib.hid (And.intro hown (And.intro hbel hbx))
    have hsz := hbel.size
    have Hbel := Lib.hid hbel
    clear hown hbx
    by_cases hlt : k < g.length
    · obtain ⟨b, o, rp, rc, rfl, hcell, hnums⟩ := (HR.out.below hbel).get hlt
      clear hcell hnums hbel
      have hlen2 := H2.out k hlt
      have hck := HC.out k hk
      have HEND := Lib.hid (edT_end HOK.out hlt)
      go_wp2
      go_loopw [3, 5] (fun u i wx => ∃ t : Nat, t ≤ (row g k).length ∧ i = .int .i64 t ∧ PrsO wx (w.heap.size + 1) u (brdL g.length (ofG g) (edN g.length (ofG g) k ++ edT g k t)) ∧ Below w.heap.size w wx ∧ Box wx w.heap.size 30 (.slice (some ⟨b, o, none⟩) g.length c))
        (fun _ i _ => (row g k).length - (intOf i).toNat)
      case atStart => exact ⟨0, Nat.zero_le _, rfl, by have e : edT g k 0 = [] := (by simp [edT]); rw [e, List.append_nil]; exact START.out.1, START.out.2.1, START.out.2.2⟩
      case round =>
        clear START hc hsz Hbel
        obtain ⟨t, ht, rfl, hown, hbel, hbx⟩ := hrel
        have HCT : Hid (∀ t, t ≤ (row g k).length → (brdL g.length (ofG g) (edN g.length (ofG g) k ++ edT g k t)).length ≤ 1000) := Lib.hid fun t _ => by
          have := brdL_length g.length (ofG g) (edN g.length (ofG g) k ++ edT g k t)
          have := edT_len g k t
          have := HCN.out k hk
          rw [List.length_append] at *
          omega
        have hc := hbx.cell
        have hsz := hbel.size
        obtain ⟨outp, outc, rfl⟩ := hown.shape
        obtain ⟨_, _, rp, rc, e1, hcell, hnums⟩ := (HR.out.below hbel).get hlt
        cases e1
        change wr.cell? _ = some (.slice rp (row g k).length rc) at hcell
        change Nums wr _ _ (.slice rp (row g k).length rc) (row g k) at hnums
        have Hnums := Lib.hid hnums
        have Hown := Lib.hid hown
        have Hbx := Lib.hid hbx
        clear hown hbx
        by_cases hlt2 : t < (row g k).length
        · obtain ⟨rb, ro, rfl, hcx⟩ := hnums.get hlt2
          have hsucc := Lib.hid (edT_succ (g := g) (k := k) hlt2)
          have hX0 := Lib.hid (((HOK.out.sets k hlt).1.1 _ (List.getElem_mem hlt2)))
          clear hnums
          generalize (row g k)[t] = X at hcx hsucc hX0
          obtain ⟨x, rfl⟩ : ∃ x : Nat, X = (x : Int) := ⟨X.toNat, by have := hX0.out.1; omega⟩
          simp only [Int.toNat_natCast] at *
          have hxn : x < g.length := by have := hX0.out.2; omega
          by_cases hgt : (k : Int) < (x : Int)
          · have hkx : k ≠ x := by omega
            have HGA : Hid (∀ gA : List (List Int), gA.length = g.length → (∀ j, j < g.length → row gA j = cutRow (row g j) j k x) → gA = matG g.length (cutE (ofG g) k x)) := Lib.hid fun gA h1 h2 => graph_ext (by rw [h1, matG_length]) fun j hj => by
              rw [h1] at hj
              rw [h2 j hj]
              conv => lhs; rw [← matG_ofG HOK.out]
              exact cutRow_mat hj hkx
            by_cases hB : Brd g.length (ofG g) (k, x)
            · have hd : dec ((x : Int) ∈ natInts (partL (cutE (ofG g) k x) (List.range g.length) k)) = false := dec_false (new_nat fun h => hB (mem_partL.1 h).2)
              have HBD := Lib.hid hB
              clear hB
              go_upto_region 9 with fail
              go_cut [48] (fun s wx => s = .bool true ∧ Below wr.heap.size wr wx)
              case first =>
                refine wp_region_held_drew (S := fun w' => w'.cell? ⟨w.heap.size, 0, none⟩ = some (.slice (some ⟨b, o, none⟩) g.length c)) (by kernel_rfl) ?_ (fun hHeld => ?_)
                · exact hc
                refine wpAnyH_take (i := 0) (v := .int .i64 k) rfl (by kernel_rfl) (by kernel_rfl) (by kernel_rfl) (fun _ _ _ h => h) (Or.inl ⟨by rfl, ?_⟩) (by assumption) ?_
                · intro wz hSw; (try dsimp only at hSw); go_simp; try rfl
                try simp only [Act.put, List.getElem_toArray, List.getElem_cons_zero, List.setIfInBounds_toArray, List.set_cons_zero, List.set_cons_succ]
                refine wpAnyH_take (i := 1) (v := .int .i64 x) rfl (by kernel_rfl) (by kernel_rfl) (by kernel_rfl) (fun _ _ _ h => h) (Or.inl ⟨by rfl, ?_⟩) (by assumption) ?_
                · intro wz hSw; (try dsimp only at hSw); go_simp; try rfl
                try simp only [Act.put, List.getElem_toArray, List.getElem_cons_succ, List.getElem_cons_zero, List.setIfInBounds_toArray, List.set_cons_zero, List.set_cons_succ]
                refine wpAnyH_take (i := 2) (v := .bool true) rfl (by kernel_rfl) (by kernel_rfl) (by kernel_rfl) (fun _ _ _ h => h) (Or.inl ⟨by rfl, ?_⟩) (by assumption) ?_
                · intro wz hSw; (try dsimp only at hSw); go_simp; try rfl
                try simp only [Act.put, List.getElem_toArray, List.getElem_cons_succ, List.getElem_cons_zero, List.setIfInBounds_toArray, List.set_cons_zero, List.set_cons_succ]
                refine wpAnyH_take (i := 3) (v := .bool true) rfl (by kernel_rfl) (by kernel_rfl) (by kernel_rfl) (fun _ _ _ h => h) (Or.inl ⟨by rfl, ?_⟩) (by assumption) ?_
                · intro wz hSw; (try dsimp only at hSw); go_simp; try rfl
                try simp only [Act.put, List.getElem_toArray, List.getElem_cons_succ, List.getElem_cons_zero, List.setIfInBounds_toArray, List.set_cons_zero, List.set_cons_succ]
                refine wpAnyH_take (i := 4) (v := .agg #[.slice (some ⟨b, o, none⟩) g.length c]) rfl (by kernel_rfl) (by kernel_rfl) (by kernel_rfl) (fun _ _ _ h => h) (Or.inl ⟨by rfl, ?_⟩) (by assumption) ?_
                · intro wz hSw; (try dsimp only at hSw); go_simp; try rfl
                try simp only [Act.put, List.getElem_toArray, List.getElem_cons_succ, List.getElem_cons_zero, List.setIfInBounds_toArray, List.set_cons_zero, List.set_cons_succ]
                refine wpAnyH_take (i := 5) (v := .int .i64 k) rfl (by kernel_rfl) (by kernel_rfl) (by kernel_rfl) (fun _ _ _ h => h) (Or.inl ⟨by rfl, ?_⟩) (by assumption) ?_
                · intro wz hSw; (try dsimp only at hSw); go_simp; try rfl
                try simp only [Act.put, List.getElem_toArray, List.getElem_cons_succ, List.getElem_cons_zero, List.setIfInBounds_toArray, List.set_cons_zero, List.set_cons_succ]
                refine wpAnyH_take (i := 6) (v := .int .i64 x) rfl (by kernel_rfl) (by kernel_rfl) (by kernel_rfl) (fun _ _ _ h => h) (Or.inl ⟨by rfl, ?_⟩) (by assumption) ?_
                · intro wz hSw; (try dsimp only at hSw); go_simp; try rfl
                try simp only [Act.put, List.getElem_toArray, List.getElem_cons_succ, List.getElem_cons_zero, List.setIfInBounds_toArray, List.set_cons_zero, List.set_cons_succ]
                refine wpAnyH_take (i := 8) (v := .agg #[.slice (some ⟨b, o, none⟩) g.length c]) rfl (by kernel_rfl) (by kernel_rfl) (by kernel_rfl) (fun _ _ _ h => h) (Or.inl ⟨by rfl, ?_⟩) (by assumption) ?_
                · intro wz hSw; (try dsimp only at hSw); go_simp; try rfl
                try simp only [Act.put, List.getElem_toArray, List.getElem_cons_succ, List.getElem_cons_zero, List.setIfInBounds_toArray, List.set_cons_zero, List.set_cons_succ]
                refine wpAnyH_take (i := 10) (v := .int .i64 k) rfl (by kernel_rfl) (by kernel_rfl) (by kernel_rfl) (fun _ _ _ h => h) (Or.inl ⟨by rfl, ?_⟩) (by assumption) ?_
                · intro wz hSw; (try dsimp only at hSw); go_simp; try rfl
                try simp only [Act.put, List.getElem_toArray, List.getElem_cons_succ, List.getElem_cons_zero, List.setIfInBounds_toArray, List.set_cons_zero, List.set_cons_succ]
                refine wpAnyH_take (i := 12) (v := .int .i64 x) rfl (by kernel_rfl) (by kernel_rfl) (by kernel_rfl) (fun _ _ _ h => h) (Or.inl ⟨by rfl, ?_⟩) (by assumption) ?_
                · intro wz hSw; (try dsimp only at hSw); go_simp; try rfl
                try simp only [Act.put, List.getElem_toArray, List.getElem_cons_succ, List.getElem_cons_zero, List.setIfInBounds_toArray, List.set_cons_zero, List.set_cons_succ]
                refine wpAnyH_ready (rs := [7]) (by kernel_rfl) (by simp) ?_
                refine AllReadyH.cons rfl (fun K hK => ?_) AllReadyH.nil
                go_simp
                go_at_call 34
                refine (l19Cut_any _ g k x _ _ rfl rfl (by omega) h16 HRA.out _ (HG.out.below (below_dN hbel 1))).mono ?_
                rintro e wA ⟨rA, gA, rfl, hsA, hlA, hrA, hbA⟩
                have hgA : gA = matG g.length (cutE (ofG g) k x) := HGA.out gA hlA hrA
                subst hgA
                have BWA : Below wr.heap.size wr wA := (below_dN (Below.refl _ _) 1).trans hbA
                have HSA := Lib.hid (hsA.gr (by rw [matG_length]; omega))
                clear hlA hrA hsA hbA
                refine hK.out _ _ ?_ (fun hHeld => ?_)
                · exact BWA.at' hc
                clear hK K
                try simp only [Act.put, List.getElem_toArray, List.getElem_cons_succ, List.getElem_cons_zero, List.setIfInBounds_toArray, List.set_cons_zero, List.set_cons_succ]
                refine wpAnyH_ready (rs := [9]) (by kernel_rfl) (by simp) ?_
                refine AllReadyH.cons rfl (fun K hK => ?_) AllReadyH.nil
                go_simp
                go_at_call 25
                refine (l16All_any _ g (by omega) _ (HG.out.below (hbel.trans (BWA.mono hsz)))).mono ?_
                rintro e wB ⟨lv, rfl, hoB, hbB⟩
                have HLB : Hid (Nums wB 2 .i64 lv (natInts (List.range g.length))) := Lib.hid (Nums.of_owns hoB (by rw [natInts_length, List.length_range]) (by omega))
                have HSB := Lib.hid (HSA.out.below hbB)
                have BWB : Below wr.heap.size wr wB := BWA.trans (hbB.mono BWA.size)
                clear hoB hbB
                refine hK.out _ _ ?_ (fun hHeld => ?_)
                · exact BWB.at' hc
                clear hK K
                try simp only [Act.put, List.getElem_toArray, List.getElem_cons_succ, List.getElem_cons_zero, List.setIfInBounds_toArray, List.set_cons_zero, List.set_cons_succ]
                refine wpAnyH_ready (rs := [11]) (by kernel_rfl) (by simp) ?_
                refine AllReadyH.cons rfl (fun K hK => ?_) AllReadyH.nil
                go_simp
                go_at_call 56
                refine (l16Reach_any _ _ g.length (cutE (ofG g) k x) (List.range g.length) k _ rfl (by rw [List.length_range]; exact h16) List.pairwise_lt_range (fun y hy => List.mem_range.1 hy) (List.mem_range.2 hlt) _ HSB.out HLB.out).mono ?_
                rintro e wC ⟨pv, rfl, hpC, hbC⟩
                have HPC := Lib.hid hpC
                have BWC : Below wr.heap.size wr wC := BWB.trans (hbC.mono BWB.size)
                clear hpC hbC
                refine hK.out _ _ ?_ (fun hHeld => ?_)
                · exact BWC.at' hc
                clear hK K
                try simp only [Act.put, List.getElem_toArray, List.getElem_cons_succ, List.getElem_cons_zero, List.setIfInBounds_toArray, List.set_cons_zero, List.set_cons_succ]
                refine wpAnyH_ready (rs := [13]) (by kernel_rfl) (by simp) ?_
                refine AllReadyH.cons rfl (fun K hK => ?_) AllReadyH.nil
                go_simp
                go_at_call 44
                refine (l1Has_any _ _ x _ HPC.out).mono ?_
                rintro e wD ⟨he, hw⟩
                rw [hd] at he
                subst he; subst hw
                refine hK.out _ _ ?_ (fun hHeld => ?_)
                · exact BWC.at' hc
                clear hK K
                try simp only [Act.put, List.getElem_toArray, List.getElem_cons_succ, List.getElem_cons_zero, List.setIfInBounds_toArray, List.set_cons_zero, List.set_cons_succ]
                refine wpAnyH_take (i := 14) (v := .bool true) rfl (by kernel_rfl) (by kernel_rfl) (by kernel_rfl) (fun _ _ _ h => h) (Or.inl ⟨by rfl, ?_⟩) (by assumption) ?_
                · intro wz hSw; (try dsimp only at hSw); go_simp; try rfl
                try simp only [Act.put, List.getElem_toArray, List.getElem_cons_succ, List.getElem_cons_zero, List.setIfInBounds_toArray, List.set_cons_zero, List.set_cons_succ]
                refine wpAnyH_take (i := 15) (v := .bool true) rfl (by kernel_rfl) (by kernel_rfl) (by kernel_rfl) (fun _ _ _ h => h) (Or.inl ⟨by rfl, ?_⟩) (by assumption) ?_
                · intro wz hSw; (try dsimp only at hSw); go_simp; try rfl
                try simp only [Act.put, List.getElem_toArray, List.getElem_cons_succ, List.getElem_cons_zero, List.setIfInBounds_toArray, List.set_cons_zero, List.set_cons_succ]
                refine wpAnyH_done (by kernel_rfl) ?_ _
                go_wp2
                go_meet
                exact ⟨rfl, BWC⟩
              case rest =>
                obtain ⟨rfl, hb9⟩ := hcut
                obtain ⟨vals, hv1, hv2, hv3⟩ := Hown.out.below hb9
                have hll : (brdL g.length (ofG g) (edN g.length (ofG g) k ++ edT g k t)).length < 1000000000 := by have := HCT.out t ht; omega
                have HV3 := Lib.hid hv3
                have HV1 := Lib.hid hv1
                have HB9 := Lib.hid (hbel.trans (hb9.mono hsz))
                have HX9 := Lib.hid (Hbx.out.keep hb9)
                have hs9 := hb9.size
                have hs10 : w.heap.size + 1 ≤ wr.heap.size := Hbx.out.lt
                clear hv3 hv1 hc hcell hcx hb9
                generalize hq : (brdL g.length (ofG g) (edN g.length (ofG g) k ++ edT g k t)).length = q at hll hv2
                go_wp2_with (at_builtin; refine wpList_app1s ty_rows64 rfl rfl rfl (hv2.alloc (.cells #[.int .i64 k, .int .i64 x] 2)) (by rw [size_alloc]; rfl) rfl hll (by rw [size_alloc]; omega) ?_; intro b7 c8 w7 hown7 hg7 _)
                go_roundw
                case rel =>
                  have ha := below_alloc wc (.cells #[.int .i64 k, .int .i64 x] 2)
                  have hrow : Nums (wc.alloc (.cells #[.int .i64 k, .int .i64 x] 2)) 2 .i64 (.slice (some ⟨wc.heap.size, 0, none⟩) 2 2) [((k : Nat) : Int), ((x : Nat) : Int)] :=
                    Nums.of_owns (World.ownsRow_lit (size := 1) wc #[.int .i64 k, .int .i64 x] 2 (Nat.le_refl wc.heap.size) (by decide) rfl) rfl (by decide)
                  subst hq
                  have hbel7 : Below (w.heap.size + 1) wc w7 := below_grown ((Below.refl _ _).alloc (by omega) _) (hv2.alloc _) hg7 (Nat.le_refl _) (by rw [size_alloc]; omega)
                  refine ⟨t + 1, by omega, by go_num, ?_, HB9.out.trans (hbel7.mono (by omega)), HX9.out.below hbel7 (by omega)⟩
                  rw [hsucc.out, if_pos hgt, ← List.append_assoc, brdL_snoc, if_pos (dec_true HBD.out)]
                  exact PrsO.snoc (e := (k, x)) HV1.out (hv2.alloc _) (fun j hj => (HV3.out j hj).below ha) hown7 hg7 hrow
                case measure => simp [intOf]; omega
            · have hd : dec ((x : Int) ∈ natInts (partL (cutE (ofG g) k x) (List.range g.length) k)) = true := dec_true (mem_natInts.2 ⟨x, mem_partL.2 ⟨List.mem_range.2 hxn, Classical.byContradiction fun h => hB h⟩, rfl⟩)
              have HBD := Lib.hid hB
              clear hB
              go_upto_region 9 with fail
              go_cut [48] (fun s wx => s = .bool false ∧ Below wr.heap.size wr wx)
              case first =>
                refine wp_region_held_drew (S := fun w' => w'.cell? ⟨w.heap.size, 0, none⟩ = some (.slice (some ⟨b, o, none⟩) g.length c)) (by kernel_rfl) ?_ (fun hHeld => ?_)
                · exact hc
                refine wpAnyH_take (i := 0) (v := .int .i64 k) rfl (by kernel_rfl) (by kernel_rfl) (by kernel_rfl) (fun _ _ _ h => h) (Or.inl ⟨by rfl, ?_⟩) (by assumption) ?_
                · intro wz hSw; (try dsimp only at hSw); go_simp; try rfl
                try simp only [Act.put, List.getElem_toArray, List.getElem_cons_zero, List.setIfInBounds_toArray, List.set_cons_zero, List.set_cons_succ]
                refine wpAnyH_take (i := 1) (v := .int .i64 x) rfl (by kernel_rfl) (by kernel_rfl) (by kernel_rfl) (fun _ _ _ h => h) (Or.inl ⟨by rfl, ?_⟩) (by assumption) ?_
                · intro wz hSw; (try dsimp only at hSw); go_simp; try rfl
                try simp only [Act.put, List.getElem_toArray, List.getElem_cons_succ, List.getElem_cons_zero, List.setIfInBounds_toArray, List.set_cons_zero, List.set_cons_succ]
                refine wpAnyH_take (i := 2) (v := .bool true) rfl (by kernel_rfl) (by kernel_rfl) (by kernel_rfl) (fun _ _ _ h => h) (Or.inl ⟨by rfl, ?_⟩) (by assumption) ?_
                · intro wz hSw; (try dsimp only at hSw); go_simp; try rfl
                try simp only [Act.put, List.getElem_toArray, List.getElem_cons_succ, List.getElem_cons_zero, List.setIfInBounds_toArray, List.set_cons_zero, List.set_cons_succ]
                refine wpAnyH_take (i := 3) (v := .bool true) rfl (by kernel_rfl) (by kernel_rfl) (by kernel_rfl) (fun _ _ _ h => h) (Or.inl ⟨by rfl, ?_⟩) (by assumption) ?_
                · intro wz hSw; (try dsimp only at hSw); go_simp; try rfl
                try simp only [Act.put, List.getElem_toArray, List.getElem_cons_succ, List.getElem_cons_zero, List.setIfInBounds_toArray, List.set_cons_zero, List.set_cons_succ]
                refine wpAnyH_take (i := 4) (v := .agg #[.slice (some ⟨b, o, none⟩) g.length c]) rfl (by kernel_rfl) (by kernel_rfl) (by kernel_rfl) (fun _ _ _ h => h) (Or.inl ⟨by rfl, ?_⟩) (by assumption) ?_
                · intro wz hSw; (try dsimp only at hSw); go_simp; try rfl
                try simp only [Act.put, List.getElem_toArray, List.getElem_cons_succ, List.getElem_cons_zero, List.setIfInBounds_toArray, List.set_cons_zero, List.set_cons_succ]
                refine wpAnyH_take (i := 5) (v := .int .i64 k) rfl (by kernel_rfl) (by kernel_rfl) (by kernel_rfl) (fun _ _ _ h => h) (Or.inl ⟨by rfl, ?_⟩) (by assumption) ?_
                · intro wz hSw; (try dsimp only at hSw); go_simp; try rfl
                try simp only [Act.put, List.getElem_toArray, List.getElem_cons_succ, List.getElem_cons_zero, List.setIfInBounds_toArray, List.set_cons_zero, List.set_cons_succ]
                refine wpAnyH_take (i := 6) (v := .int .i64 x) rfl (by kernel_rfl) (by kernel_rfl) (by kernel_rfl) (fun _ _ _ h => h) (Or.inl ⟨by rfl, ?_⟩) (by assumption) ?_
                · intro wz hSw; (try dsimp only at hSw); go_simp; try rfl
                try simp only [Act.put, List.getElem_toArray, List.getElem_cons_succ, List.getElem_cons_zero, List.setIfInBounds_toArray, List.set_cons_zero, List.set_cons_succ]
                refine wpAnyH_take (i := 8) (v := .agg #[.slice (some ⟨b, o, none⟩) g.length c]) rfl (by kernel_rfl) (by kernel_rfl) (by kernel_rfl) (fun _ _ _ h => h) (Or.inl ⟨by rfl, ?_⟩) (by assumption) ?_
                · intro wz hSw; (try dsimp only at hSw); go_simp; try rfl
                try simp only [Act.put, List.getElem_toArray, List.getElem_cons_succ, List.getElem_cons_zero, List.setIfInBounds_toArray, List.set_cons_zero, List.set_cons_succ]
                refine wpAnyH_take (i := 10) (v := .int .i64 k) rfl (by kernel_rfl) (by kernel_rfl) (by kernel_rfl) (fun _ _ _ h => h) (Or.inl ⟨by rfl, ?_⟩) (by assumption) ?_
                · intro wz hSw; (try dsimp only at hSw); go_simp; try rfl
                try simp only [Act.put, List.getElem_toArray, List.getElem_cons_succ, List.getElem_cons_zero, List.setIfInBounds_toArray, List.set_cons_zero, List.set_cons_succ]
                refine wpAnyH_take (i := 12) (v := .int .i64 x) rfl (by kernel_rfl) (by kernel_rfl) (by kernel_rfl) (fun _ _ _ h => h) (Or.inl ⟨by rfl, ?_⟩) (by assumption) ?_
                · intro wz hSw; (try dsimp only at hSw); go_simp; try rfl
                try simp only [Act.put, List.getElem_toArray, List.getElem_cons_succ, List.getElem_cons_zero, List.setIfInBounds_toArray, List.set_cons_zero, List.set_cons_succ]
                refine wpAnyH_ready (rs := [7]) (by kernel_rfl) (by simp) ?_
                refine AllReadyH.cons rfl (fun K hK => ?_) AllReadyH.nil
                go_simp
                go_at_call 34
                refine (l19Cut_any _ g k x _ _ rfl rfl (by omega) h16 HRA.out _ (HG.out.below (below_dN hbel 1))).mono ?_
                rintro e wA ⟨rA, gA, rfl, hsA, hlA, hrA, hbA⟩
                have hgA : gA = matG g.length (cutE (ofG g) k x) := HGA.out gA hlA hrA
                subst hgA
                have BWA : Below wr.heap.size wr wA := (below_dN (Below.refl _ _) 1).trans hbA
                have HSA := Lib.hid (hsA.gr (by rw [matG_length]; omega))
                clear hlA hrA hsA hbA
                refine hK.out _ _ ?_ (fun hHeld => ?_)
                · exact BWA.at' hc
                clear hK K
                try simp only [Act.put, List.getElem_toArray, List.getElem_cons_succ, List.getElem_cons_zero, List.setIfInBounds_toArray, List.set_cons_zero, List.set_cons_succ]
                refine wpAnyH_ready (rs := [9]) (by kernel_rfl) (by simp) ?_
                refine AllReadyH.cons rfl (fun K hK => ?_) AllReadyH.nil
                go_simp
                go_at_call 25
                refine (l16All_any _ g (by omega) _ (HG.out.below (hbel.trans (BWA.mono hsz)))).mono ?_
                rintro e wB ⟨lv, rfl, hoB, hbB⟩
                have HLB : Hid (Nums wB 2 .i64 lv (natInts (List.range g.length))) := Lib.hid (Nums.of_owns hoB (by rw [natInts_length, List.length_range]) (by omega))
                have HSB := Lib.hid (HSA.out.below hbB)
                have BWB : Below wr.heap.size wr wB := BWA.trans (hbB.mono BWA.size)
                clear hoB hbB
                refine hK.out _ _ ?_ (fun hHeld => ?_)
                · exact BWB.at' hc
                clear hK K
                try simp only [Act.put, List.getElem_toArray, List.getElem_cons_succ, List.getElem_cons_zero, List.setIfInBounds_toArray, List.set_cons_zero, List.set_cons_succ]
                refine wpAnyH_ready (rs := [11]) (by kernel_rfl) (by simp) ?_
                refine AllReadyH.cons rfl (fun K hK => ?_) AllReadyH.nil
                go_simp
                go_at_call 56
                refine (l16Reach_any _ _ g.length (cutE (ofG g) k x) (List.range g.length) k _ rfl (by rw [List.length_range]; exact h16) List.pairwise_lt_range (fun y hy => List.mem_range.1 hy) (List.mem_range.2 hlt) _ HSB.out HLB.out).mono ?_
                rintro e wC ⟨pv, rfl, hpC, hbC⟩
                have HPC := Lib.hid hpC
                have BWC : Below wr.heap.size wr wC := BWB.trans (hbC.mono BWB.size)
                clear hpC hbC
                refine hK.out _ _ ?_ (fun hHeld => ?_)
                · exact BWC.at' hc
                clear hK K
                try simp only [Act.put, List.getElem_toArray, List.getElem_cons_succ, List.getElem_cons_zero, List.setIfInBounds_toArray, List.set_cons_zero, List.set_cons_succ]
                refine wpAnyH_ready (rs := [13]) (by kernel_rfl) (by simp) ?_
                refine AllReadyH.cons rfl (fun K hK => ?_) AllReadyH.nil
                go_simp
                go_at_call 44
                refine (l1Has_any _ _ x _ HPC.out).mono ?_
                rintro e wD ⟨he, hw⟩
                rw [hd] at he
                subst he; subst hw
                refine hK.out _ _ ?_ (fun hHeld => ?_)
                · exact BWC.at' hc
                clear hK K
                try simp only [Act.put, List.getElem_toArray, List.getElem_cons_succ, List.getElem_cons_zero, List.setIfInBounds_toArray, List.set_cons_zero, List.set_cons_succ]
                refine wpAnyH_take (i := 14) (v := .bool false) rfl (by kernel_rfl) (by kernel_rfl) (by kernel_rfl) (fun _ _ _ h => h) (Or.inl ⟨by rfl, ?_⟩) (by assumption) ?_
                · intro wz hSw; (try dsimp only at hSw); go_simp; try rfl
                try simp only [Act.put, List.getElem_toArray, List.getElem_cons_succ, List.getElem_cons_zero, List.setIfInBounds_toArray, List.set_cons_zero, List.set_cons_succ]
                refine wpAnyH_take (i := 15) (v := .bool false) rfl (by kernel_rfl) (by kernel_rfl) (by kernel_rfl) (fun _ _ _ h => h) (Or.inl ⟨by rfl, ?_⟩) (by assumption) ?_
                · intro wz hSw; (try dsimp only at hSw); go_simp; try rfl
                try simp only [Act.put, List.getElem_toArray, List.getElem_cons_succ, List.getElem_cons_zero, List.setIfInBounds_toArray, List.set_cons_zero, List.set_cons_succ]
                refine wpAnyH_done (by kernel_rfl) ?_ _
                go_wp2
                go_meet
                exact ⟨rfl, BWC⟩
              case rest =>
                obtain ⟨rfl, hb9⟩ := hcut
                go_wp2
                go_roundw
                case rel => exact ⟨t + 1, by omega, by go_num, by rw [hsucc.out, if_pos hgt, ← List.append_assoc, brdL_snoc, if_neg (by rw [dec_false HBD.out]; decide)]; exact Hown.out.below hb9, hbel.trans (hb9.mono hsz), Hbx.out.keep hb9⟩
                case measure => simp [intOf]; omega
          · go_upto_region 9 with fail
            go_cut [48] (fun s wx => s = .bool false ∧ Below wr.heap.size wr wx)
            case first =>
              refine wp_region_held_drew (S := fun w' => w'.cell? ⟨w.heap.size, 0, none⟩ = some (.slice (some ⟨b, o, none⟩) g.length c)) (by kernel_rfl) ?_ (fun hHeld => ?_)
              · exact hc
              refine wpAnyH_take (i := 0) (v := .int .i64 k) rfl (by kernel_rfl) (by kernel_rfl) (by kernel_rfl) (fun _ _ _ h => h) (Or.inl ⟨by rfl, ?_⟩) (by assumption) ?_
              · intro wz hSw; (try dsimp only at hSw); go_simp; try rfl
              try simp only [Act.put, List.getElem_toArray, List.getElem_cons_zero, List.setIfInBounds_toArray, List.set_cons_zero, List.set_cons_succ]
              refine wpAnyH_take (i := 1) (v := .int .i64 x) rfl (by kernel_rfl) (by kernel_rfl) (by kernel_rfl) (fun _ _ _ h => h) (Or.inl ⟨by rfl, ?_⟩) (by assumption) ?_
              · intro wz hSw; (try dsimp only at hSw); go_simp; try rfl
              try simp only [Act.put, List.getElem_toArray, List.getElem_cons_succ, List.getElem_cons_zero, List.setIfInBounds_toArray, List.set_cons_zero, List.set_cons_succ]
              refine wpAnyH_take (i := 2) (v := .bool false) rfl (by kernel_rfl) (by kernel_rfl) (by kernel_rfl) (fun _ _ _ h => h) (Or.inl ⟨by rfl, ?_⟩) (by assumption) ?_
              · intro wz hSw; (try dsimp only at hSw); go_simp; try rfl
              try simp only [Act.put, List.getElem_toArray, List.getElem_cons_succ, List.getElem_cons_zero, List.setIfInBounds_toArray, List.set_cons_zero, List.set_cons_succ]
              refine wpAnyH_take (i := 3) (v := .bool false) rfl (by kernel_rfl) (by kernel_rfl) (by kernel_rfl) (fun _ _ _ h => h) (Or.inl ⟨by rfl, ?_⟩) (by assumption) ?_
              · intro wz hSw; (try dsimp only at hSw); go_simp; try rfl
              try simp only [Act.put, List.getElem_toArray, List.getElem_cons_succ, List.getElem_cons_zero, List.setIfInBounds_toArray, List.set_cons_zero, List.set_cons_succ]
              refine wpAnyH_take (i := 4) (v := undef) rfl (by kernel_rfl) (by kernel_rfl) (by kernel_rfl) (fun _ _ _ h => h) (Or.inr ⟨by kernel_rfl, rfl⟩) (by assumption) ?_
              try simp only [Act.put, List.getElem_toArray, List.getElem_cons_succ, List.getElem_cons_zero, List.setIfInBounds_toArray, List.set_cons_zero, List.set_cons_succ]
              refine wpAnyH_take (i := 5) (v := undef) rfl (by kernel_rfl) (by kernel_rfl) (by kernel_rfl) (fun _ _ _ h => h) (Or.inr ⟨by kernel_rfl, rfl⟩) (by assumption) ?_
              try simp only [Act.put, List.getElem_toArray, List.getElem_cons_succ, List.getElem_cons_zero, List.setIfInBounds_toArray, List.set_cons_zero, List.set_cons_succ]
              refine wpAnyH_take (i := 6) (v := undef) rfl (by kernel_rfl) (by kernel_rfl) (by kernel_rfl) (fun _ _ _ h => h) (Or.inr ⟨by kernel_rfl, rfl⟩) (by assumption) ?_
              try simp only [Act.put, List.getElem_toArray, List.getElem_cons_succ, List.getElem_cons_zero, List.setIfInBounds_toArray, List.set_cons_zero, List.set_cons_succ]
              refine wpAnyH_take (i := 7) (v := undef) rfl (by kernel_rfl) (by kernel_rfl) (by kernel_rfl) (fun _ _ _ h => h) (Or.inr ⟨by kernel_rfl, rfl⟩) (by assumption) ?_
              try simp only [Act.put, List.getElem_toArray, List.getElem_cons_succ, List.getElem_cons_zero, List.setIfInBounds_toArray, List.set_cons_zero, List.set_cons_succ]
              refine wpAnyH_take (i := 8) (v := undef) rfl (by kernel_rfl) (by kernel_rfl) (by kernel_rfl) (fun _ _ _ h => h) (Or.inr ⟨by kernel_rfl, rfl⟩) (by assumption) ?_
              try simp only [Act.put, List.getElem_toArray, List.getElem_cons_succ, List.getElem_cons_zero, List.setIfInBounds_toArray, List.set_cons_zero, List.set_cons_succ]
              refine wpAnyH_take (i := 9) (v := undef) rfl (by kernel_rfl) (by kernel_rfl) (by kernel_rfl) (fun _ _ _ h => h) (Or.inr ⟨by kernel_rfl, rfl⟩) (by assumption) ?_
              try simp only [Act.put, List.getElem_toArray, List.getElem_cons_succ, List.getElem_cons_zero, List.setIfInBounds_toArray, List.set_cons_zero, List.set_cons_succ]
              refine wpAnyH_take (i := 10) (v := undef) rfl (by kernel_rfl) (by kernel_rfl) (by kernel_rfl) (fun _ _ _ h => h) (Or.inr ⟨by kernel_rfl, rfl⟩) (by assumption) ?_
              try simp only [Act.put, List.getElem_toArray, List.getElem_cons_succ, List.getElem_cons_zero, List.setIfInBounds_toArray, List.set_cons_zero, List.set_cons_succ]
              refine wpAnyH_take (i := 11) (v := undef) rfl (by kernel_rfl) (by kernel_rfl) (by kernel_rfl) (fun _ _ _ h => h) (Or.inr ⟨by kernel_rfl, rfl⟩) (by assumption) ?_
              try simp only [Act.put, List.getElem_toArray, List.getElem_cons_succ, List.getElem_cons_zero, List.setIfInBounds_toArray, List.set_cons_zero, List.set_cons_succ]
              refine wpAnyH_take (i := 12) (v := undef) rfl (by kernel_rfl) (by kernel_rfl) (by kernel_rfl) (fun _ _ _ h => h) (Or.inr ⟨by kernel_rfl, rfl⟩) (by assumption) ?_
              try simp only [Act.put, List.getElem_toArray, List.getElem_cons_succ, List.getElem_cons_zero, List.setIfInBounds_toArray, List.set_cons_zero, List.set_cons_succ]
              refine wpAnyH_take (i := 13) (v := undef) rfl (by kernel_rfl) (by kernel_rfl) (by kernel_rfl) (fun _ _ _ h => h) (Or.inr ⟨by kernel_rfl, rfl⟩) (by assumption) ?_
              try simp only [Act.put, List.getElem_toArray, List.getElem_cons_succ, List.getElem_cons_zero, List.setIfInBounds_toArray, List.set_cons_zero, List.set_cons_succ]
              refine wpAnyH_take (i := 14) (v := undef) rfl (by kernel_rfl) (by kernel_rfl) (by kernel_rfl) (fun _ _ _ h => h) (Or.inr ⟨by kernel_rfl, rfl⟩) (by assumption) ?_
              try simp only [Act.put, List.getElem_toArray, List.getElem_cons_succ, List.getElem_cons_zero, List.setIfInBounds_toArray, List.set_cons_zero, List.set_cons_succ]
              refine wpAnyH_take (i := 15) (v := .bool false) rfl (by kernel_rfl) (by kernel_rfl) (by kernel_rfl) (fun _ _ _ h => h) (Or.inl ⟨by rfl, ?_⟩) (by assumption) ?_
              · intro wz hSw; (try dsimp only at hSw); go_simp; try rfl
              try simp only [Act.put, List.getElem_toArray, List.getElem_cons_succ, List.getElem_cons_zero, List.setIfInBounds_toArray, List.set_cons_zero, List.set_cons_succ]
              refine wpAnyH_done (by kernel_rfl) ?_ _
              go_wp2
              go_meet
              exact ⟨rfl, below_dN (Below.refl _ _) 1⟩
            case rest =>
              obtain ⟨rfl, hb9⟩ := hcut
              go_wp2
              go_roundw
              case rel => exact ⟨t + 1, by omega, by go_num, by rw [hsucc.out, if_neg hgt]; exact Hown.out.below hb9, hbel.trans (hb9.mono hsz), Hbx.out.keep hb9⟩
              case measure => simp [intOf]; omega
        · obtain rfl : t = (row g k).length := by omega
          clear hnums
          go_wp2
          go_roundw
          case rel =>
            refine ⟨k + 1, by omega, by go_num, ?_, hbel, Hbx.out⟩
            rw [edN_succ, ← HEND.out]
            exact Hown.out
          case measure => simp [intOf]; omega
    · obtain rfl : k = g.length := by omega
      go_wp2
      go_ret
      exact ⟨_, rfl, START.out.1.base (by omega), hbel⟩

end Go.Proofs.YtilklahopjjhmaaDoor
