/- Walks: the reference's complement of a right graph. -/
import Derived.Test.YtmakhapdlkbbnaaDoorTgQ14
import Derived.Test.YtmakhapdlkbbnaaDoorTgQ17
namespace Go.Proofs.YtmakhapdlkbbnaaDoor
open Go.RowKit

theorem symE_comp {g : List (List Int)} (hg : GOk g) : SymE g.length (compE (ofG g)) where
  sym := fun r j _ _ => by
    cases h : compE (ofG g) r j with
    | true => exact (comp_sym (ofG_sym hg) r j h).symm
    | false =>
      cases h2 : compE (ofG g) j r with
      | false => rfl
      | true => rw [comp_sym (ofG_sym hg) j r h2] at h; exact absurd h (by decide)
  irr := fun r _ => comp_irr _ r

set_option maxRecDepth 100000 in
set_option maxHeartbeats 4000000 in
theorem l2Other_any (v : Value) (g : List (List Int)) (hok : GOk g) (w : World) (hg : Gr w v g) :
    Calls Tryd.prog 86 #[v] w fun e w' => ∃ u, e = .returned u ∧ SG w' w.heap.size u (matG g.length (compE (ofG g))) ∧ Below w.heap.size w w' := by
  have hg0 := hg
  obtain ⟨u, rfl, hr⟩ := hg
  obtain ⟨gp, gc, rfl, _⟩ := hr.shape
  obtain ⟨W0, hW0⟩ : ∃ W0, W0 = (w.alloc (.cells #[.slice gp g.length gc] 29)).alloc (.cells #[.slice none 0 0] 29) := ⟨_, rfl⟩
  have hb0 : Below w.heap.size w W0 := by rw [hW0]; exact below_alloc2 _ _ _
  have hbg : Box W0 w.heap.size 29 (.slice gp g.length gc) := by rw [hW0]; exact (Box.new _ _ _).alloc _
  have hbn : Box W0 (w.heap.size + 1) 29 (.slice none 0 0) := by
    have := Box.new (w.alloc (.cells #[.slice gp g.length gc] 29)) (.slice none 0 0) 29
    rw [size_alloc] at this
    rw [hW0]; exact this
  have HW0 := Lib.hid hW0
  have HB0 := Lib.hid hb0
  have HBG := Lib.hid hbg
  have HBN := Lib.hid hbn
  have HG := Lib.hid (hg0.below hb0)
  have sz0 : W0.heap.size = w.heap.size + 2 := by rw [hW0, size_alloc, size_alloc]
  have h16 := hok.le
  have HSE := Lib.hid (symE_comp hok)
  have HOK := Lib.hid hok
  have cg0 := hbg.cell
  clear hr hg0 hb0 hbg hbn hok
  go_enter Tryd.func86, Tryd.ntmps86
  go_upto_region 1 with fail
  rw [← hW0]
  clear hW0
  go_upto_region 2 with (first
    | (go_at_call 171; refine (l1Empty_any _ g.length rfl (by omega) _).mono ?_; rintro e w3 ⟨u3, rfl, hs3, hb3⟩; obtain ⟨p, c, rfl⟩ := hs3.shape; rw [List.length_replicate] at hs3 ⊢)
    | (go_at_call 87; refine (l1Size_any _ g _ HG.out).mono ?_; rintro e w2 ⟨rfl, hb2⟩))
  have START : Hid (L2I W0 (w3.alloc (.cells #[.slice p g.length c] 29)) w3.heap.size p c g.length (matG g.length (uptoE (compE (ofG g)) 0 0))) := Lib.hid
    ⟨by rw [upto_start]; exact (hs3.base hb2.size).below (below_alloc _ _), (hb2.trans (hb3.mono hb2.size)).alloc (Nat.le_trans hb2.size hb3.size) _, Box.new _ _ _, fun k hk => ⟨Nat.le_trans hb2.size (hs3.lt k hk).1, (hs3.lt k hk).2⟩, Nat.le_trans hb2.size hb3.size⟩
  clear hs3 hb3 hb2 cg0
  go_wp2_with fail
  go_loopw [4] (fun i wr => ∃ k : Nat, k ≤ g.length ∧ i = .int .i64 k ∧ L2I W0 wr w3.heap.size p c g.length (matG g.length (uptoE (compE (ofG g)) k 0))) (fun i _ => g.length - (intOf i).toNat)
  case atStart => exact ⟨0, Nat.zero_le _, rfl, START.out⟩
  case round =>
    clear START
    obtain ⟨i, hi, rfl, hI⟩ := hrel
    have HI := Lib.hid hI
    clear hI
    have hcg := HI.out.bel.at (by omega) HBG.out.cell
    by_cases hlt : i < g.length
    · go_wp2_with (go_at_call 87; refine (l1Size_any _ g _ (HG.out.below HI.out.bel)).mono ?_; rintro e w4 ⟨rfl, hb4⟩; have HI4 := Lib.hid (HI.out.next hb4); clear hb4)
      clear hcg HI
      go_loopw [5] (fun i' wr => ∃ k : Nat, k ≤ i ∧ i' = .int .i64 k ∧ L2I W0 wr w3.heap.size p c g.length (matG g.length (uptoE (compE (ofG g)) i k))) (fun i' _ => i - (intOf i').toNat)
      case atStart => exact ⟨0, Nat.zero_le _, rfl, HI4.out⟩
      case round =>
        clear HI4
        obtain ⟨k, hk, rfl, hI⟩ := hrel
        have HI := Lib.hid hI
        clear hI
        by_cases hlt2 : k < i
        · have hcg := HI.out.bel.at (by omega) HBG.out.cell
          have hedge : Hid (dec ((i : Int) ∈ row g k) = !compE (ofG g) i k) := Lib.hid (by
            have h1 : ofG g i k = ofG g k i := by
              cases h : ofG g k i with
              | true => exact ofG_sym HOK.out _ _ h
              | false =>
                cases h2 : ofG g i k with
                | false => rfl
                | true => rw [ofG_sym HOK.out _ _ h2] at h; exact absurd h (by decide)
            have h2 : (i == k) = false := by simp; omega
            unfold compE
            rw [h2, h1]
            simp [ofG, decide_dec])
          have hkg : k < g.length := by omega
          have hml := matG_length g.length (uptoE (compE (ofG g)) i k)
          cases hE' : compE (ofG g) i k
          · have HD := Lib.hid (show dec ((i : Int) ∈ row g k) = true by rw [hedge.out, hE']; rfl)
            clear hedge
            go_wp2_with (go_at_call 116; refine (l1Edge_any _ g _ _ k i rfl rfl hkg _ (HG.out.below HI.out.bel)).mono ?_; rintro e w5 ⟨he, hb5⟩; rw [HD.out] at he; subst he; have HI5 := Lib.hid (HI.out.next hb5); clear hb5)
            go_roundw
            case rel => exact ⟨k + 1, by omega, by go_num, by rw [← upto_no HSE.out (by omega) hlt2 hE']; exact HI5.out⟩
            case measure => simp [intOf]; omega
          · have HD := Lib.hid (show dec ((i : Int) ∈ row g k) = false by rw [hedge.out, hE']; rfl)
            clear hedge
            go_wp2_with (first
              | (go_at_call 151; refine (Hlk.out _ rfl).mono ?_; rintro e w6 ⟨rfl, hs6, hg6⟩; have hbx := HI5.out.box.grown hg6 (fun e => by have := (HI5.out.own _ e.symm).2; omega); have hc6 := hbx.cell; have hf6 := hbx.free)
              | (go_at_call 116; refine (l1Edge_any _ g _ _ k i rfl rfl hkg _ (HG.out.below HI.out.bel)).mono ?_; rintro e w5 ⟨he, hb5⟩; rw [HD.out] at he; subst he; have HI5 := Lib.hid (HI.out.next hb5); clear hb5; have hb5 := HI5.out.box.cell; have hf5 := HI5.out.box.free; (have hlk : ∀ wz, wz = w5 → Calls Tryd.prog 151 #[.agg #[.slice p g.length c], .int .i64 k, .int .i64 i] wz fun e w' => e = .returned (.agg #[.slice p g.length c]) ∧ SG w' W0.heap.size (.agg #[.slice p g.length c]) (matG g.length (uptoE (compE (ofG g)) i (k + 1))) ∧ wz.grownBy w' (Value.slice p g.length c).ownBlock := (by
                  rintro wz rfl
                  have := l1Link_any p c (matG g.length (uptoE (compE (ofG g)) i k)) k i k i W0.heap.size rfl rfl (by omega) (by omega) (fun j _ => Nat.le_trans (matG_row_le j) (by omega)) wz (by rw [hml]; exact HI5.out.sg)
                  rw [hml, upto_yes HSE.out (by omega) hlt2 hE'] at this
                  exact this)); have Hlk := Lib.hid hlk; clear hlk))
            go_roundw
            case rel => exact ⟨k + 1, by omega, by go_num, HI5.out.link hs6 hg6⟩
            case measure => simp [intOf]; omega
        · obtain rfl : k = i := by omega
          go_wp2
          go_roundw
          case rel => exact ⟨k + 1, by omega, by go_num, by rw [← upto_row HSE.out]; exact HI.out⟩
          case measure => simp [intOf]; omega
    · obtain rfl : i = g.length := by omega
      go_wp2_with (go_at_call 87; refine (l1Size_any _ g _ (HG.out.below HI.out.bel)).mono ?_; rintro e w4 ⟨rfl, hb4⟩; have HI4 := Lib.hid (HI.out.next hb4); clear hb4; have hb5 := HI4.out.box.cell; have hbn := HI4.out.bel.at (by omega) HBN.out.cell; have hbf := (HI4.out.bel.frozen (p := ⟨w.heap.size + 1, 0, none⟩) (by show w.heap.size + 1 < _; omega)).trans HBN.out.free)
      have hbn2 := HBN.out.below HI4.out.bel (by omega)
      refine bodyPost_ret (v := .agg #[.slice p g.length c]) (by simp [results, Tryd.results86, go_sem, hbn]) rfl ⟨_, rfl, ?_, ?_⟩
      · have hs := (HI4.out.sg.setBox hbn2 (.slice p g.length c)).base (base' := w.heap.size) (by omega)
        rw [upto_end] at hs
        exact hs
      · exact (HB0.out.trans (HI4.out.bel.mono HB0.out.size)).setCell (by show w.heap.size ≤ w.heap.size + 1; omega) _


set_option maxRecDepth 100000 in
set_option maxHeartbeats 2000000 in
theorem specComplement_yes (v : Value) (g : List (List Int)) (hok : GOk g) (w : World) (hg : Gr w v g) :
    Calls Tryd.prog 16 #[v] w fun e w' => ∃ u, e = .returned (.tuple #[u, .bool true]) ∧ SG w' w.heap.size u (matG g.length (compE (ofG g))) ∧ Below w.heap.size w w' := by
  have hg0 := hg
  obtain ⟨u, rfl, hr⟩ := hg
  obtain ⟨gp, gc, rfl, _⟩ := hr.shape
  have hbA := Lib.hid (below_alloc2 w (.cells #[.slice gp g.length gc] 29) (.cells #[.slice none 0 0] 29))
  have BX := Lib.hid ((Box.new w (.slice gp g.length gc) 29).alloc (.cells #[.slice none 0 0] 29))
  have BN : Hid (Box ((w.alloc (.cells #[.slice gp g.length gc] 29)).alloc (.cells #[.slice none 0 0] 29)) (w.heap.size + 1) 29 (.slice none 0 0)) := by
    have := Box.new (w.alloc (.cells #[.slice gp g.length gc] 29)) (.slice none 0 0) 29
    rw [size_alloc] at this
    exact Lib.hid this
  have HG := Lib.hid (hg0.below hbA.out)
  have hd := dec_true hok
  have HOK := Lib.hid hok
  clear hr hg0 hok
  go_enter Tryd.func16, Tryd.ntmps16
  go_wp2_with (first
    | (go_at_call 85; refine (specGraphOk_any _ g _ HG.out).mono ?_; rintro e w2 ⟨he, hb2⟩; rw [hd] at he; subst he; have hbx := (BX.out.keep hb2).cell)
    | (go_at_call 86; refine (l2Other_any _ g HOK.out _ (HG.out.below hb2)).mono ?_; rintro e w3 ⟨u3, rfl, hs3, hb3⟩; obtain ⟨p3, c3, rfl⟩ := hs3.shape; have hbn := (BN.out.keep hb2).keep hb3; obtain ⟨hnc, hnf, hnl, hnB⟩ := hbn))
  have h0 := hbA.out.size
  have h2 := hb2.size
  rw [size_alloc, size_alloc] at h2
  refine bodyPost_ret (v := .tuple #[.agg #[.slice p3 (matG g.length (compE (ofG g))).length c3], .bool true]) (by simp [results, Tryd.results16, go_sem, hnc]) rfl ⟨_, rfl, ?_, ?_⟩
  · exact (hs3.setBox ⟨hnc, hnf, hnl, hnB⟩ _).base (by omega)
  · exact ((hbA.out.trans (hb2.mono hbA.out.size)).trans (hb3.mono (Nat.le_trans hbA.out.size hb2.size))).setCell (by show w.heap.size ≤ w.heap.size + 1; omega) _

end Go.Proofs.YtmakhapdlkbbnaaDoor
