/- Walk: the program's CoreOf. -/
import Derived.Test.YtgecghfaoonelaaDoorImplG
import Derived.Test.YtgecghfaoonelaaDoorImplS
namespace Go.Proofs.YtgecghfaoonelaaDoor
open Go.RowKit

theorem dg_nil (w : World) (base : Nat) : DG w base (.agg #[.slice none 0 0]) [] := ⟨_, [], rfl, rfl, World.ownsRow_nil _ _ _ _, ⟨fun j hj => by simp at hj, fun i j hi => by simp at hi⟩⟩

set_option maxRecDepth 100000 in
set_option maxHeartbeats 4000000 in
theorem implCoreOf_any (v : Value) (g : List (List Int)) (w : World) (hg : Gr w v g) (hT : Tab w) :
    Calls Tryd.prog 25 #[v] w fun e w' => ∃ (u : Value) (gg : List (List Int)) (ok : Bool), e = .returned (.tuple #[u, .bool ok]) ∧ CoreS g gg ok ∧ DG w' w.heap.size u gg ∧ gg.length ≤ 16 ∧ (∀ j, (row gg j).length ≤ 16) ∧ Below w.heap.size w w' := by
  have hg0 := hg
  obtain ⟨u, rfl, hr⟩ := hg
  obtain ⟨p, c, rfl, _, _, _⟩ := hr.shape
  have hbA := Lib.hid (below_alloc2 w (.cells #[.slice p g.length c] 29) (.cells #[.slice none 0 0] 29))
  have BX := Lib.hid ((Box.new w (.slice p g.length c) 29).alloc (.cells #[.slice none 0 0] 29))
  have BN : Hid (Box ((w.alloc (.cells #[.slice p g.length c] 29)).alloc (.cells #[.slice none 0 0] 29)) (w.heap.size + 1) 29 (.slice none 0 0)) := by
    have := Box.new (w.alloc (.cells #[.slice p g.length c] 29)) (.slice none 0 0) 29
    rw [size_alloc] at this
    exact Lib.hid this
  have HG := Lib.hid (hg0.below hbA.out)
  have HT := Lib.hid (hT.keep hbA.out)
  have hpos := hT.pos
  have h0 := hbA.out.size
  clear hr hg0 hT
  by_cases hok : GOk g
  case neg =>
    have hd := dec_false hok
    have Hok := Lib.hid hok
    clear hok
    go_enter Tryd.func25, Tryd.ntmps25
    go_wp2_with (go_at_call 41; refine (implGraphOk_any _ g _ HG.out).mono ?_; rintro e w2 ⟨rfl, hb2⟩; obtain ⟨nc, nf, nl, nB⟩ := BN.out.keep hb2)
    refine bodyPost_ret (v := .tuple #[.agg #[.slice none 0 0], .bool false]) (by simp [results, Tryd.results25, go_sem, nc]) rfl ⟨_, [], false, rfl, .inr ⟨rfl, rfl, .inl Hok.out⟩, dg_nil _ _, by simp, fun j => by simp [row], ?_⟩
    exact (hbA.out.trans (hb2.mono hbA.out.size)).setCell (by show w.heap.size ≤ w.heap.size + 1; omega) _
  have hd := dec_true hok
  obtain ⟨M, hM⟩ : ∃ M, M = 2 ^ g.length - 1 := ⟨_, rfl⟩
  obtain ⟨hn1, hn2, hn3⟩ := nOk_start hok hM
  have hle := hok.le
  have HM := Lib.hid hM
  have N1 := Lib.hid hn1
  have N2 := Lib.hid hn2
  have N3 := Lib.hid hn3
  have Hok := Lib.hid hok
  clear hok hM hn1 hn2 hn3
  go_enter Tryd.func25, Tryd.ntmps25
  go_upto_region 5 with (first
    | (go_at_call 41; refine (implGraphOk_any _ g _ HG.out).mono ?_; rintro e w2 ⟨rfl, hb2⟩; have hbx := (BX.out.keep hb2).cell; have s2 := hb2.size)
    | (go_at_call 42; refine (netsOf_any _ g _ (HG.out.below hb2) Hok.out).mono ?_; rintro e w3 ⟨x, rfl, hown3, hb3⟩; have hx3 := Sl.of_owns hown3 (by omega); obtain ⟨xp, xc, rfl⟩ := hx3.shape; have HX3 := Lib.hid hown3; have HT3 := Lib.hid ((HT.out.keep hb2).keep hb3); clear hx3 hown3)
    | (go_at_call 44; refine (all_any' _ _ _ M (by omega) HM.out _).mono ?_; rintro e w4 ⟨rfl, rfl⟩)
    | (go_at_call 43; refine (foldedOf_any _ _ (netL g) M w2.heap.size rfl N1.out N2.out _ (by rw [N3.out]; exact HX3.out) HT3.out (by rw [size_alloc, size_alloc] at s2; omega)).mono ?_; rintro e w5 ⟨ov, fs, l, a', rfl, hF, ho5, hx5, hlen5, hok5, hcnt5, hg5⟩))
  have hl16 := hok5.left16
  have hl32 : l < 4294967296 := by omega
  have s3 := hb3.size
  rw [size_alloc, size_alloc] at s2
  have HB5 := Lib.hid (below_grown (Below.refl w2.heap.size w3) HX3.out hg5 (Nat.le_refl _) hb3.size)
  have HT5 := Lib.hid (HT3.out.below HB5.out (by omega))
  obtain ⟨nc, nf, nl, nB⟩ := ((BN.out.keep hb2).keep hb3).below HB5.out (by have := (BN.out.keep hb2).lt; omega)
  have HBa := Lib.hid ((hbA.out.trans (hb2.mono h0)).trans ((hb3.trans HB5.out).mono (by omega)))
  have s5 := HB5.out.size
  have ha5 : a'.length = g.length := hlen5.trans N3.out
  obtain ⟨g', hFS, hSame⟩ := hF.same (by rw [HM.out]; exact same_start Hok.out)
  have HFS := Lib.hid hFS
  have HSame := Lib.hid hSame
  have HX5 := Lib.hid (Sl.of_owns hx5 (by omega))
  have Hok5 := Lib.hid hok5
  clear hF ho5 hx5 hok5 hFS hSame hg5 hlen5 hbx
  have hbl : (bitsOf l).length ≤ 16 := by omega
  by_cases hz : l = 0
  · subst hz
    go_wp2
    refine bodyPost_ret (v := .tuple #[.agg #[.slice none 0 0], .bool false]) (by simp [results, Tryd.results25, go_sem, nc]) rfl ⟨_, [], false, rfl, .inr ⟨rfl, rfl, .inr ⟨_, _, by have := HFS.out; rw [bitsOf_zero] at this; exact this⟩⟩, dg_nil _ _, by simp, fun j => by simp [row], ?_⟩
    exact HBa.out.setCell (by show w.heap.size ≤ w.heap.size + 1; omega) _
  · have hz2 : ((l : Int) == 0) = false := by simpa using hz
    have hne : natInts (bitsOf l) ≠ [] := fun e => hz ((bits_nil hl16).1 (by simpa [natInts] using e))
    have Hne := Lib.hid hne
    clear hne
    have hlk : ∀ v ∈ bitsOf l, v < a'.length := fun v hv => Hok5.out.inn v ((mem_left hl16).1 hv)
    have HLK := Lib.hid hlk
    have hm16 := Hok5.out.le
    clear hlk
    go_wp2_with (first
      | (go_at_call 49; refine (list_any _ l rfl hl32 _ HT5.out).mono ?_; rintro e w6 ⟨lv, rfl, ho6, hb6⟩; have HN6 := Lib.hid (numsInt_of _ _ _ _ ho6 (by omega)); clear ho6)
      | (go_at_call 48; refine (induced_any _ _ a' (bitsOf l) hm16 Hok5.out.lt HLK.out hbl _ (by rw [← ha5] at *; exact HX5.out.below hb6) HN6.out).mono ?_; rintro e w7 ⟨u7, rfl, ho7, hb7⟩; have hx7 : Sl _ _ _ (indN (bitsOf l).length (bitE a' (bitsOf l))).length _ := (by rw [indN_length]; exact Sl.of_owns ho7 (by omega)); have HX7 := Lib.hid hx7; clear ho7 hx7)
      | (go_at_call 50; refine (graph_any _ (indN (bitsOf l).length (bitE a' (bitsOf l))) (indN_lt16 hbl) (by rw [indN_length]; omega) _ HX7.out ((HT5.out.keep hb6).keep hb7)).mono ?_; rintro e w8 ⟨u8, rfl, hd8, hb8⟩; obtain ⟨p8, c8, rfl⟩ := hd8.shape; obtain ⟨mc, mf, ml, mB⟩ := ((Box.keep ⟨nc, nf, nl, nB⟩ hb6).keep hb7).keep hb8))
    have e8 : rowsOf (indN (bitsOf l).length (bitE a' (bitsOf l))) = indL g' (natInts (bitsOf l)) := by rw [rowsOf_indN hbl, bitE_ind HSame.out]
    have hll2 : (indL g' (natInts (bitsOf l))).length = (bitsOf l).length := by unfold indL; rw [matG_length, natInts_length]
    have s6 := hb6.size
    have s7 := hb7.size
    rw [e8, hll2] at hd8
    refine bodyPost_ret (v := .tuple #[.agg #[.slice p8 (bitsOf l).length c8], .bool true]) (by simp [results, Tryd.results25, go_sem, mc, rowsOf_length, indN_length]) rfl ⟨_, _, true, rfl, .inl ⟨rfl, Hok.out, _, _, _, HFS.out, Hne.out, rfl⟩, (hd8.setBox ⟨mc, mf, ml, mB⟩ _).base (by omega), by omega, fun j => Nat.le_trans (matG_row_le j) (by rw [natInts_length]; omega), ?_⟩
    exact (((HBa.out.trans (hb6.mono HBa.out.size)).trans (hb7.mono (by omega))).trans (hb8.mono (by omega))).setCell (by show w.heap.size ≤ w.heap.size + 1; omega) _

end Go.Proofs.YtgecghfaoonelaaDoor
