/- Walks: the program's part of a graph; two graphs joined. -/
import Derived.Test.YtmakhapdlkbbnaaDoorTgQ27
import Derived.Test.YtmakhapdlkbbnaaDoorTgQ12
namespace Go.Proofs.YtmakhapdlkbbnaaDoor
open Go.RowKit

def joTo (n : Nat) (E F : Nat → Nat → Bool) (i k : Nat) : Nat → Nat → Bool := fun r j =>
  besE n E F r j || ((decide (r < n) != decide (j < n)) && (decide (min r j < i) || (decide (min r j = i) && decide (max r j < n + k))))
theorem joTo_start {n m : Nat} {E F : Nat → Nat → Bool} : indN m (joTo n E F 0 0) = indN m (besE n E F) := indN_congr fun r j _ _ => by
  unfold joTo
  by_cases h1 : r < n <;> by_cases h2 : j < n <;> simp [h1, h2] <;> omega
theorem joTo_row {n m : Nat} {E F : Nat → Nat → Bool} {i : Nat} : indN (n + m) (joTo n E F i m) = indN (n + m) (joTo n E F (i + 1) 0) := indN_congr fun r j hr hj => by
  unfold joTo
  congr 1
  by_cases h1 : r < n <;> by_cases h2 : j < n <;> simp [h1, h2]
  all_goals
    rw [Bool.eq_iff_iff]
    simp
    omega
theorem joTo_end {n m : Nat} {E F : Nat → Nat → Bool} : indN m (joTo n E F n 0) = indN m (joiE n E F) := indN_congr fun r j _ _ => by
  unfold joTo joiE
  congr 1
  by_cases h1 : r < n <;> by_cases h2 : j < n <;> simp [h1, h2] <;> omega
theorem joTo_step {n m : Nat} {E F : Nat → Nat → Bool} {i k : Nat} (hi : i < n) (hk : k < m) : joinL (indN (n + m) (joTo n E F i k)) i (n + k) = indN (n + m) (joTo n E F i (k + 1)) := by
  have h1 : joTo n E F i (k + 1) i (n + k) = true := by
    unfold joTo
    simp [hi, show min i (n + k) = i by omega, show max i (n + k) = n + k by omega]
  have h2 : joTo n E F i (k + 1) (n + k) i = true := by
    unfold joTo
    simp [hi, show min (n + k) i = i by omega, show max (n + k) i = n + k by omega]
  rw [← joinL_cut (show i < n + m by omega) (show n + k < n + m by omega) (by omega) h1 h2]
  congr 1
  refine indN_congr fun r j hr hj => ?_
  unfold cutE joTo
  by_cases hb : besE n E F r j = true
  · have hne : ¬ ((r = i ∧ j = n + k) ∨ (r = n + k ∧ j = i)) := by
      rintro (⟨rfl, rfl⟩ | ⟨rfl, rfl⟩)
      · rw [bes_low hi] at hb; simp at hb; omega
      · rw [bes_high] at hb; simp at hb; omega
    rw [hb, Bool.eq_iff_iff]
    simp
    omega
  · have hb' : besE n E F r j = false := by simpa using hb
    rw [hb', Bool.eq_iff_iff]
    by_cases h1 : r < n <;> by_cases h2 : j < n <;> simp [h1, h2] <;> omega

set_option maxRecDepth 100000 in
set_option maxHeartbeats 4000000 in
theorem implInduced_yes (v lv : Value) (g : List (List Int)) (ln : List Nat) (hok : GOk g) (hset : SetIn g.length (natInts ln)) (hne : ln ≠ []) (w : World) (hg : Gr w v g) (hn : Nums w 2 .i64 lv (natInts ln)) (hT : Tab w) :
    Calls Tryd.prog 21 #[v, lv] w fun e w' => ∃ u, e = .returned (.tuple #[u, .bool true]) ∧ DG w' w.heap.size u (indL g (natInts ln)) ∧ Below w.heap.size w w' := by
  have hg0 := hg
  obtain ⟨u, rfl, hr⟩ := hg
  obtain ⟨p, c, rfl, _⟩ := hr.shape
  obtain ⟨lp, lc, rfl, _⟩ := id hn.shape
  have hbA := Lib.hid (below_alloc2 w (.cells #[.slice p g.length c] 29) (.cells #[.slice none 0 0] 29))
  have BX := Lib.hid ((Box.new w (.slice p g.length c) 29).alloc (.cells #[.slice none 0 0] 29))
  have BN : Hid (Box ((w.alloc (.cells #[.slice p g.length c] 29)).alloc (.cells #[.slice none 0 0] 29)) (w.heap.size + 1) 29 (.slice none 0 0)) := by
    have := Box.new (w.alloc (.cells #[.slice p g.length c] 29)) (.slice none 0 0) 29
    rw [size_alloc] at this
    exact Lib.hid this
  have HG := Lib.hid (hg0.below hbA.out)
  have HN := Lib.hid (hn.below hbA.out)
  have HT := Lib.hid (hT.keep hbA.out)
  have h0 := hbA.out.size
  have h16 := hok.le
  have hll := setIn_length (by omega) hset
  rw [natInts_length] at hll
  have hd := Lib.hid (dec_true (show GOk g ∧ SetIn g.length (natInts ln) from ⟨hok, hset⟩))
  have HOK := Lib.hid hok
  have HLT : Hid (∀ v ∈ ln, v < g.length) := Lib.hid (fun v hv => by have := (hset.1 v (mem_natInts.2 ⟨v, hv, rfl⟩)).2; omega)
  have HLT2 : Hid (∀ v ∈ ln, v < (netL g).length) := Lib.hid (fun v hv => by rw [show (netL g).length = g.length by simp [netL]]; exact HLT.out v hv)
  have hNl : Hid ((netL g).length = g.length) := Lib.hid (by simp [netL])
  have hne' : (((natInts ln).length : Int) == 0) = false := by
    rw [natInts_length]
    have : 0 < ln.length := List.length_pos_iff.2 hne
    simp; omega
  rw [natInts_length] at hne'
  have hnl := natInts_length ln
  clear hr hg0 hn hT hok hset hne
  simp only [natInts_length] at *
  clear hnl
  go_enter Tryd.func21, Tryd.ntmps21
  go_wp2_with (first
    | (go_at_call 93; refine (implSetOk_any _ _ g (natInts ln) (by omega) _ HG.out HN.out).mono ?_; rintro e w2 ⟨he, hb2⟩; rw [hd.out] at he; subst he; have hbx := (BX.out.keep hb2).cell)
    | (go_at_call 82; refine (netsOf_any _ g _ (HG.out.below hb2) HOK.out).mono ?_; rintro e w3 ⟨x, rfl, hown3, hb3⟩; have HX3 : Hid (Sl w3 79 x (netL g).length ((netL g).map u32v)) := Lib.hid (by rw [hNl.out]; exact Sl.of_owns hown3 (by omega)); clear hown3)
    | (go_at_call 95; refine (narrowN_any _ (natInts ln) _ ((HN.out.below hb2).below hb3)).mono ?_; rintro e w4 ⟨nv, rfl, hown4, hb4⟩; have HN4 : Hid (Nums w4 3 .i64 nv (natInts ln)) := Lib.hid (Nums.of_owns hown4 rfl (by rw [natInts_length]; omega)); clear hown4)
    | (go_at_call 94; refine (induced_any _ _ (netL g) ln (by rw [hNl.out]; exact h16) (netL_lt HOK.out) HLT2.out (by omega) _ (HX3.out.below hb4) HN4.out).mono ?_; rintro e w5 ⟨u5, rfl, ho5, hb5⟩; have HX5 : Hid (Sl w5 79 u5 (indN ln.length (bitE (netL g) ln)).length ((indN ln.length (bitE (netL g) ln)).map u32v)) := Lib.hid (by rw [indN_length]; exact Sl.of_owns ho5 (by omega)); clear ho5)
    | (go_at_call 83; refine (graph_any _ (indN ln.length (bitE (netL g) ln)) (indN_lt16 (by omega)) (by rw [indN_length]; omega) _ HX5.out ((((HT.out.keep hb2).keep hb3).keep hb4).keep hb5)).mono ?_; rintro e w6 ⟨u6, rfl, hd6, hb6⟩; rw [rowsOf_indN (by omega), ← bitE_netL HOK.out HLT.out] at hd6; obtain ⟨p6, c6, rfl⟩ := hd6.shape; obtain ⟨mc, mf, ml, mB⟩ := ((((BN.out.keep hb2).keep hb3).keep hb4).keep hb5).keep hb6))
  have s2 := hb2.size
  rw [size_alloc, size_alloc] at s2
  have s3 := hb3.size
  have s4 := hb4.size
  have s5 := hb5.size
  refine bodyPost_ret (v := .tuple #[.agg #[.slice p6 (indL g (natInts ln)).length c6], .bool true]) (by simp [results, Tryd.results21, go_sem, mc]) rfl ⟨_, rfl, (hd6.setBox ⟨mc, mf, ml, mB⟩ _).base (by omega), ?_⟩
  exact (((((hbA.out.trans (hb2.mono h0)).trans (hb3.mono (by omega))).trans (hb4.mono (by omega))).trans (hb5.mono (by omega))).trans (hb6.mono (by omega))).setCell (by show w.heap.size ≤ w.heap.size + 1; omega) _

set_option maxRecDepth 100000 in
set_option maxHeartbeats 4000000 in
theorem implJoined_yes (v z : Value) (g h : List (List Int)) (hok : GOk g) (hoh : GOk h) (hle : g.length + h.length ≤ 16) (w : World) (hg : Gr w v g) (hh : Gr w z h) (hT : Tab w) :
    Calls Tryd.prog 15 #[v, z] w fun e w' => ∃ u, e = .returned (.tuple #[u, .bool true]) ∧ DG w' w.heap.size u (matG (g.length + h.length) (joiE g.length (ofG g) (ofG h))) ∧ Below w.heap.size w w' := by
  have hg0 := hg
  have hh0 := hh
  obtain ⟨u, rfl, hr⟩ := hg
  obtain ⟨gp, gc, rfl, _⟩ := hr.shape
  obtain ⟨u', rfl, hr'⟩ := hh
  obtain ⟨hp, hc, rfl, _⟩ := hr'.shape
  obtain ⟨W0, hW0⟩ : ∃ W0, W0 = ((w.alloc (.cells #[.slice gp g.length gc] 29)).alloc (.cells #[.slice hp h.length hc] 29)).alloc (.cells #[.slice none 0 0] 29) := ⟨_, rfl⟩
  have hb0 : Below w.heap.size w W0 := by rw [hW0]; exact below_alloc3 _ _ _ _
  have hbg : Box W0 w.heap.size 29 (.slice gp g.length gc) := by rw [hW0]; exact ((Box.new _ _ _).alloc _).alloc _
  have hbh : Box W0 (w.heap.size + 1) 29 (.slice hp h.length hc) := by
    have := Box.new (w.alloc (.cells #[.slice gp g.length gc] 29)) (.slice hp h.length hc) 29
    rw [size_alloc] at this
    rw [hW0]; exact this.alloc _
  have hbn : Box W0 (w.heap.size + 1 + 1) 29 (.slice none 0 0) := by
    have := Box.new ((w.alloc (.cells #[.slice gp g.length gc] 29)).alloc (.cells #[.slice hp h.length hc] 29)) (.slice none 0 0) 29
    rw [size_alloc, size_alloc] at this
    rw [hW0]; exact this
  have HB0 := Lib.hid hb0
  have HBG := Lib.hid hbg
  have HBH := Lib.hid hbh
  have HBN := Lib.hid hbn
  have HG := Lib.hid (hg0.below hb0)
  have HH := Lib.hid (hh0.below hb0)
  have HT := Lib.hid (hT.keep hb0)
  have sz0 : W0.heap.size = w.heap.size + 3 := by rw [hW0, size_alloc, size_alloc, size_alloc]
  have HOK := Lib.hid hok
  have HOH := Lib.hid hoh
  have h1 := hok.le
  have h2 := hoh.le
  have hpos := hok.pos
  have cg0 := hbg.cell
  have ch0 := hbh.cell
  have HGB : Hid (GOk (matG (g.length + h.length) (besE g.length (ofG g) (ofG h)))) := Lib.hid (gok_matG (by omega) hle (bes_sym (ofG_sym hok) (ofG_sym hoh)) (bes_irr (ofG_irr hok) (ofG_irr hoh)))
  clear hr hr' hg0 hh0 hb0 hbg hbh hbn hok hoh hT
  go_enter Tryd.func15, Tryd.ntmps15
  go_upto_region 1 with fail
  rw [← hW0]
  clear hW0
  go_upto_region 2 with (go_at_call 14; refine (implBeside_yes _ _ g h HOK.out HOH.out hle _ HG.out HH.out HT.out).mono ?_; rintro e w2 ⟨u2, rfl, hd2, hb2⟩; obtain ⟨p2, c2, rfl⟩ := hd2.shape)
  obtain ⟨m, hm⟩ : ∃ m, m = (matG (g.length + h.length) (besE g.length (ofG g) (ofG h))).length := ⟨_, rfl⟩
  rw [← hm] at hd2 ⊢
  obtain ⟨w3, hw3⟩ : ∃ w3, w3 = w2.alloc (.cells #[.slice p2 m c2] 29) := ⟨_, rfl⟩
  rw [← hw3]
  have HB3 : Hid (Below W0.heap.size W0 w3) := Lib.hid (by rw [hw3]; exact hb2.alloc hb2.size _)
  have HX3 : Hid (Box w3 w2.heap.size 29 (.slice p2 m c2)) := Lib.hid (by rw [hw3]; exact Box.new _ _ _)
  have HG3 : Hid (Gr w3 (.agg #[.slice p2 m c2]) (matG (g.length + h.length) (besE g.length (ofG g) (ofG h)))) := Lib.hid (by
    rw [hw3]
    exact (hd2.gr (by rw [matG_length]; omega) (fun j _ => Nat.le_trans (matG_row_le j) (by omega))).below (below_alloc _ _))
  have cx3 := HX3.out.cell
  have cg3 := HB3.out.at' cg0
  have ch3 := HB3.out.at' ch0
  generalize w2.heap.size = b6 at *
  clear hw3 hd2 hb2 cg0 ch0 hm
  go_wp2_with (go_at_call 82; refine (netsOf_any _ _ _ HG3.out HGB.out).mono ?_; rintro e w4 ⟨x, rfl, hown4, hb4⟩; have cg4 := hb4.at' cg3; have ch4 := hb4.at' ch3)
  have START : Hid (w4.ownsRow w3.heap.size 79 1 x (g.length + h.length) ((indN (g.length + h.length) (joTo g.length (ofG g) (ofG h) 0 0)).map u32v)) := Lib.hid (by
    rw [← indN_ofG HGB.out, matG_length, indN_congr (F := besE g.length (ofG g) (ofG h)) fun r j hr hj => ofG_matG hr hj] at hown4
    rw [joTo_start]
    exact hown4)
  obtain ⟨xp, xc, rfl⟩ := owns_shape START.out
  have START2 := Lib.hid hb4
  have HT3 := Lib.hid (HT.out.keep HB3.out)
  have HBN3 := Lib.hid (HBN.out.keep HB3.out)
  have HBG3 := Lib.hid (HBG.out.keep HB3.out)
  have HBH3 := Lib.hid (HBH.out.keep HB3.out)
  have HBW := Lib.hid (HB0.out.trans (HB3.out.mono HB0.out.size))
  have s3 := HB3.out.size
  have hsl : ∀ E : Nat → Nat → Bool, (indN (g.length + h.length) E).length = g.length + h.length := fun E => indN_length _ E
  have HSL := Lib.hid hsl
  clear hown4 hb4 cg3 ch3 cx3 HX3 HG3 HGB HG HH HT HBN HBG HBH HB0 hsl cg4 ch4
  go_loopw [9, 25] (fun _ i wr => ∃ k : Nat, k ≤ g.length ∧ i = .int .i64 k ∧ Hid (wr.ownsRow w3.heap.size 79 1 (.slice xp (g.length + h.length) xc) (g.length + h.length) ((indN (g.length + h.length) (joTo g.length (ofG g) (ofG h) k 0)).map u32v)) ∧ Hid (Below w3.heap.size w3 wr)) (fun _ i _ => g.length - (intOf i).toNat)
  case atStart => exact ⟨0, Nat.zero_le _, rfl, START, START2⟩
  case round =>
    clear START START2
    obtain ⟨i, hi, rfl, HO, HB⟩ := hrel
    by_cases hlt : i < g.length
    · have ch5 := (HBH3.out.keep HB.out).cell
      go_wp2_with fail
      clear ch5
      go_loopw [10, 31] (fun _ i' wr => ∃ k : Nat, k ≤ h.length ∧ i' = .int .i64 k ∧ Hid (wr.ownsRow w3.heap.size 79 1 (.slice xp (g.length + h.length) xc) (g.length + h.length) ((indN (g.length + h.length) (joTo g.length (ofG g) (ofG h) i k)).map u32v)) ∧ Hid (Below w3.heap.size w3 wr)) (fun _ i' _ => h.length - (intOf i').toNat)
      case atStart => exact ⟨0, Nat.zero_le _, rfl, HO, HB⟩
      case round =>
        clear HO HB
        obtain ⟨k, hk, rfl, HO, HB⟩ := hrel
        by_cases hlt2 : k < h.length
        · have cg5 := (HBG3.out.keep HB.out).cell
          have hwr : IntKind.i64.wrap ((g.length : Int) + (k : Int)) = (g.length : Int) + (k : Int) := by rw [IntKind.wrap_i64]; omega
          have hj := join_any (.slice xp (g.length + h.length) xc) (i : Int) ((g.length : Int) + (k : Int)) (indN (g.length + h.length) (joTo g.length (ofG g) (ofG h) i k)) i (g.length + k) w3.heap.size rfl (by omega) (by rw [HSL.out]; omega) (by rw [HSL.out]; omega) (by omega) (by rw [HSL.out]; omega) (indN_lt16 (by omega)) wr (by rw [HSL.out]; exact HO.out)
          rw [HSL.out, joTo_step hlt hlt2] at hj
          have HJ := Lib.hid hj
          clear hj
          go_wp2_with (go_at_call 84; refine HJ.out.mono ?_; rintro e w6 ⟨rfl, ho6, hg6⟩)
          go_roundw
          case rel => exact ⟨k + 1, by omega, by go_num, Lib.hid ho6, Lib.hid (below_grown HB.out HO.out hg6 (Nat.le_refl _) HB.out.size)⟩
          case measure => simp [intOf]; omega
        · obtain rfl : k = h.length := by omega
          go_wp2
          go_roundw
          case rel => exact ⟨i + 1, by omega, by go_num, by rw [← joTo_row]; exact HO, HB⟩
          case measure => simp [intOf]; omega
    · obtain rfl : i = g.length := by omega
      have HO2 : Hid (Sl wr 79 (.slice xp (g.length + h.length) xc) (indN (g.length + h.length) (joiE g.length (ofG g) (ofG h))).length ((indN (g.length + h.length) (joiE g.length (ofG g) (ofG h))).map u32v)) := Lib.hid (by
        have := HO.out
        rw [joTo_end] at this
        rw [HSL.out]
        exact Sl.of_owns this (by omega))
      have HT5 := Lib.hid (HT3.out.keep HB.out)
      have HBN5 := Lib.hid (HBN3.out.keep HB.out)
      go_wp2_with (go_at_call 83; refine (graph_any _ (indN (g.length + h.length) (joiE g.length (ofG g) (ofG h))) (indN_lt16 (by omega)) (by rw [HSL.out]; omega) _ HO2.out HT5.out).mono ?_; rintro e w8 ⟨u8, rfl, hd8, hb8⟩; rw [rowsOf_indN (by omega)] at hd8; obtain ⟨p8, c8, rfl⟩ := hd8.shape; obtain ⟨mc, mf, ml, mB⟩ := HBN5.out.keep hb8)
      have s8 := HB.out.size
      refine bodyPost_ret (v := .tuple #[.agg #[.slice p8 (matG (g.length + h.length) (joiE g.length (ofG g) (ofG h))).length c8], .bool true]) (by simp [results, Tryd.results15, go_sem, mc]) rfl ⟨_, rfl, ?_, ?_⟩
      · exact (hd8.setBox ⟨mc, mf, ml, mB⟩ _).base (by omega)
      · exact (HBW.out.trans ((HB.out.trans (hb8.mono (by omega))).mono (by omega))).setCell (by show w.heap.size ≤ w.heap.size + 1 + 1; omega) _

end Go.Proofs.YtmakhapdlkbbnaaDoor
