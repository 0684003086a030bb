/- Walks: the reference's graph of two lines. -/
import Derived.Test.YtbdcolhmhbfdoaaDoorPermA
import Derived.Test.YtbdcolhmhbfdoaaDoorRenB
namespace Go.Proofs.YtbdcolhmhbfdoaaDoor
open Go.RowKit

set_option maxRecDepth 100000 in
set_option maxHeartbeats 1000000 in
theorem l15Lines_any (av bv : Value) (a b : List Int) (w : World) (ha : Nums w 2 .i64 av a) (hb : Nums w 2 .i64 bv b) :
    Calls Tryd.prog 54 #[av, bv] w fun e w' => e = .returned (.bool (dec (LinesOk a b))) ∧ Below w.heap.size w w' := by
  obtain ⟨ap, ac, rfl, _⟩ := id ha.shape
  obtain ⟨bp, bc, rfl, _⟩ := id hb.shape
  have HA := Lib.hid ha
  have HB := Lib.hid hb
  clear ha hb
  by_cases h1 : LineOk a
  case neg =>
    have hd := dec_false h1
    have H1 := Lib.hid h1
    clear h1
    go_enter Tryd.func54, Tryd.ntmps54
    go_wp2_with (go_at_call 84; refine (l15Line_any _ a _ HA.out).mono ?_; rintro e w2 ⟨he, hb2⟩; rw [hd] at he; subst he)
    go_ret
    exact ⟨ret_bool (false_dec fun h => H1.out h.1), hb2⟩
  have hd := dec_true h1
  have H1 := Lib.hid h1
  clear h1
  by_cases h2 : LineOk b
  case neg =>
    have hd2 := dec_false h2
    have H2 := Lib.hid h2
    clear h2
    go_enter Tryd.func54, Tryd.ntmps54
    go_wp2_with (first
      | (go_at_call 84; refine (l15Line_any _ b _ (HB.out.below hb2)).mono ?_; rintro e w3 ⟨he, hb3⟩; rw [hd2] at he; subst he)
      | (go_at_call 84; refine (l15Line_any _ a _ HA.out).mono ?_; rintro e w2 ⟨he, hb2⟩; rw [hd] at he; subst he))
    go_ret
    exact ⟨ret_bool (false_dec fun h => H2.out h.2.1), hb2.trans (hb3.mono hb2.size)⟩
  have hd2 := dec_true h2
  have H2 := Lib.hid h2
  clear h2
  go_enter Tryd.func54, Tryd.ntmps54
  go_wp2_with (first
    | (go_at_call 84; refine (l15Line_any _ b _ (HB.out.below hb2)).mono ?_; rintro e w3 ⟨he, hb3⟩; rw [hd2] at he; subst he)
    | (go_at_call 84; refine (l15Line_any _ a _ HA.out).mono ?_; rintro e w2 ⟨he, hb2⟩; rw [hd] at he; subst he))
  go_ret
  refine ⟨ret_bool ?_, hb2.trans (hb3.mono hb2.size)⟩
  by_cases h3 : a.length = b.length
  · rw [dec_true (show LinesOk a b from ⟨H1.out, H2.out, h3⟩)]; simp [h3]
  · rw [dec_false (show ¬ LinesOk a b from fun h => h3 h.2.2)]; simp; omega

theorem owns_shapeP {w : World} {base : Nat} {E : TypeId} {size n : Nat} {v : Value} {xs : List Value} (h : w.ownsRow base E size v n xs) : ∃ p c, v = .slice p n c := by
  rcases h.2 with ⟨rfl, h0⟩ | ⟨b, c, _, rfl, _⟩
  · exact ⟨none, 0, by rw [h0]⟩
  · exact ⟨_, _, rfl⟩

/-- The row of crossings as far as it is built. -/
def crRow (a b : List Int) (v t : Nat) : List Int := natInts ((List.range t).filter (crN a b v))
theorem crRow_succ (a b : List Int) (v t : Nat) : crRow a b v (t + 1) = if crN a b v t = true then crRow a b v t ++ [(t : Int)] else crRow a b v t := by
  unfold crRow
  rw [List.range_succ, List.filter_append]
  by_cases h : crN a b v t = true
  · rw [if_pos h, List.filter_cons_of_pos h]; simp [natInts]
  · rw [if_neg h, List.filter_cons_of_neg h]; simp [natInts]
theorem crRow_len (a b : List Int) (v t : Nat) : (crRow a b v t).length ≤ t := by
  unfold crRow
  rw [natInts_length]
  exact Nat.le_trans (List.length_filter_le _ _) (by simp)

set_option maxRecDepth 100000 in
set_option maxHeartbeats 4000000 in
theorem l15Graph_any (av bv : Value) (a b : List Int) (hok : LinesOk a b) (w : World) (ha : Nums w 2 .i64 av a) (hb : Nums w 2 .i64 bv b) :
    Calls Tryd.prog 58 #[av, bv] w fun e w' => ∃ u, e = .returned u ∧ DG w' w.heap.size u (matG a.length (crN a b)) ∧ Below w.heap.size w w' := by
  obtain ⟨ap, ac, rfl, _⟩ := id ha.shape
  obtain ⟨bp, bc, rfl, _⟩ := id hb.shape
  have START := Lib.hid (two_boxes w)
  have HA := Lib.hid ha
  have HB := Lib.hid hb
  have h16 := hok.1.2.1
  have HS := Lib.hid (crN_sym hok)
  have hml := matG_length a.length (crN a b)
  clear ha hb hok
  go_enter Tryd.func58, Tryd.ntmps58
  go_wp2
  go_loopw [6] (fun i wr => ∃ (k : Nat) (ov : Value) (vals : List Value), k ≤ a.length ∧ i = .int .i64 k ∧ Below w.heap.size w wr ∧ w.heap.size + 2 ≤ wr.heap.size ∧
      Box wr w.heap.size 27 (.slice none 0 0) ∧ Box wr (w.heap.size + 1) 27 ov ∧ wr.ownsRow (w.heap.size + 2) 25 1 ov k vals ∧ vals.length = k ∧ Dis wr (w.heap.size + 2) k vals (matG a.length (crN a b)))
    (fun i _ => a.length - (intOf i).toNat)
  case atStart =>
    obtain ⟨W, rfl, h1, h2, h3, h4⟩ := START.out
    exact ⟨0, _, [], Nat.zero_le _, rfl, h1, by omega, h3, h4, World.ownsRow_nil _ _ _ _, rfl, ⟨fun j hj => by omega, fun i j hi => by omega⟩⟩
  case round =>
    obtain ⟨k, ov, vals, hk, rfl, hbel, hsz, hb2, hb3, hown, hvl, hrows⟩ := hrel
    have Hvl := Lib.hid hvl
    have Hrows := Lib.hid hrows
    have Hb2 := Lib.hid hb2
    have Hb3 := Lib.hid hb3
    have Hown := Lib.hid hown
    clear hvl hrows hb3 hb2 hown
    by_cases hlt : k < a.length
    · have HBel := Lib.hid hbel
      clear hbel
      have hrowk := Lib.hid (row_matG (E := crN a b) hlt)
      go_wp2_with fail
      obtain ⟨wo, rfl⟩ : ∃ wo, wo = wr := ⟨_, rfl⟩
      go_loopw [7, 8] (fun u i wx => ∃ t : Nat, t ≤ a.length ∧ i = .int .i64 t ∧ wx.ownsRow wo.heap.size 2 1 u (crRow a b k t).length ((crRow a b k t).map (Value.int .i64)) ∧ Below wo.heap.size wo wx)
        (fun _ i _ => a.length - (intOf i).toNat)
      case atStart => exact ⟨0, Nat.zero_le _, rfl, ownsRow_empty _ _ _, below_alloc _ _⟩
      case round =>
        obtain ⟨t, ht, rfl, hown, hbx⟩ := hrel
        have hsx := hbx.size
        obtain ⟨rp, rc, rfl⟩ := owns_shapeP hown
        have HXown := Lib.hid hown
        have HBx := Lib.hid hbx
        clear hown hbx
        have hcl := crRow_len a b k t
        by_cases htl : t < a.length
        · have hsucc := crRow_succ a b k t
          cases hE : crN a b k t
          · have hE' : crE a b t k = false := by
              have := HS.out.sym k t hlt htl
              rw [hE] at this
              exact this.symm
            rw [hE, if_neg (by simp)] at hsucc
            have Hs := Lib.hid hsucc
            clear hsucc hE
            go_wp2_with (go_at_call 56; refine (l15Cross_any _ _ a b t k _ ((HA.out.below HBel.out).below HBx.out) ((HB.out.below HBel.out).below HBx.out)).mono ?_; rintro e w4 ⟨he, rfl⟩; rw [hE'] at he; subst he)
            go_roundw
            case rel => exact ⟨t + 1, by omega, by go_num, by rw [Hs.out]; exact HXown.out, HBx.out⟩
            case measure => simp [intOf]; omega
          · have hE' : crE a b t k = true := by
              have := HS.out.sym k t hlt htl
              rw [hE] at this
              exact this.symm
            rw [hE, if_pos rfl] at hsucc
            have Hs := Lib.hid hsucc
            clear hsucc hE
            generalize hL : (crRow a b k t).length = L at hcl
            have hown : wr.ownsRow wo.heap.size 2 1 (.slice rp L rc) L ((crRow a b k t).map (Value.int .i64)) := by rw [← hL]; exact HXown.out
            go_wp2_with (first
              | (at_builtin; refine wpList_app1 ty_i64 rfl rfl rfl hown rfl rfl (by omega) (by omega) ?_; intro v' w5 hown' hg _)
              | (go_at_call 56; refine (l15Cross_any _ _ a b t k _ ((HA.out.below HBel.out).below HBx.out) ((HB.out.below HBel.out).below HBx.out)).mono ?_; rintro e w4 ⟨he, rfl⟩; rw [hE'] at he; subst he))
            go_roundw
            case rel =>
              refine ⟨t + 1, by omega, by go_num, ?_, below_grown HBx.out hown hg (Nat.le_refl _) hsx⟩
              rw [Hs.out, List.length_append, List.map_append, hL]; exact hown'
            case measure => simp [intOf]; omega
        · obtain rfl : t = a.length := by omega
          have hsz2 : w.heap.size + 2 ≤ wr.heap.size := by omega
          obtain ⟨c3, f3, _, _⟩ := Hb3.out.keep HBx.out
          obtain ⟨p9, c9, rfl⟩ : ∃ p c, ov = .slice p k c := by
            rcases Hown.out.2 with ⟨h1, h2⟩ | ⟨g1, cap, cur, h1, _⟩
            · exact ⟨none, 0, by rw [h1, h2]⟩
            · exact ⟨_, _, h1⟩
          have hownc := ownsRow_below Hown.out HBx.out
          have hbx5a := fun o => (below_alloc wr o).at' c3
          go_wp2_with (at_builtin; refine wpList_app1s ty_rows rfl rfl rfl hownc rfl rfl (by omega) (by omega) ?_; intro b7 c8 w7 hown7 hg7 _; have hb7 := below_grown (Below.refl (w.heap.size + 2) wr) hownc hg7 (Nat.le_refl _) (by omega); have hob7 := hb7.at (by omega) c3; have hof7 := (hb7.frozen (p := ⟨w.heap.size + 1, 0, none⟩) (by show w.heap.size + 1 < _; omega)).trans f3)
          all_goals go_roundw
          all_goals first
            | (simp [intOf]; omega)
            | skip
          all_goals
            obtain ⟨W, rfl, r1, r2, r3, r4, r5, r6⟩ := box_step HBel.out hsz HBx.out Hb2.out Hb3.out Hown.out hown7 hg7
            refine ⟨k + 1, _, _, by omega, by go_num, r1, r2, r3, r4, r5, by simp [Hvl.out], ?_⟩
            have hd : Dis wr (w.heap.size + 2) k vals (matG a.length (crN a b)) := ⟨fun j hj => ownsRow_below (Hrows.out.rows j hj) HBx.out, Hrows.out.dis⟩
            refine hd.snoc Hvl.out r6 (B := wo.heap.size) (by omega) (fun j hj b hb => ((Hrows.out.rows j hj).lt b hb).2) ?_
            rw [hrowk.out]
            exact HXown.out
    · obtain rfl : k = a.length := by omega
      obtain ⟨k2c, k2f, _⟩ := Hb2.out
      obtain ⟨k3c, k3f, _⟩ := Hb3.out
      obtain ⟨p9, c9, rfl⟩ : ∃ p c, ov = .slice p a.length c := by
        rcases Hown.out.2 with ⟨h1, h2⟩ | ⟨g1, cap, cur, h1, _⟩
        · exact ⟨none, 0, by rw [h1, h2]⟩
        · exact ⟨_, _, h1⟩
      go_wp2
      refine bodyPost_ret (v := .agg #[.slice p9 a.length c9]) (by simp [results, Tryd.results58, go_sem, k2c]) rfl ⟨_, rfl, ?_, ?_⟩
      · have : DG wr (w.heap.size + 2) (.agg #[.slice p9 a.length c9]) (matG a.length (crN a b)) := ⟨_, vals, rfl, by rw [matG_length]; exact Hvl.out, by rw [matG_length]; exact Hown.out, by rw [matG_length]; exact Hrows.out⟩
        exact (this.setBox Hb2.out _).base (by omega)
      · exact hbel.setCell (by show w.heap.size ≤ w.heap.size; omega) _

end Go.Proofs.YtbdcolhmhbfdoaaDoor
