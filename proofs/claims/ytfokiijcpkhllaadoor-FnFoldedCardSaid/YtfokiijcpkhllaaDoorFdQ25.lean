/- Walks: the neighbours of a vertex that are left; the reference's fill. -/
import Derived.Test.YtfokiijcpkhllaaDoorFdQ24
namespace Go.Proofs.YtfokiijcpkhllaaDoor
open Go.RowKit

theorem ty_bool : SlTy Tryd.prog 138 4 (.bool false) 1 1 := ⟨Tryd.underlying138, by kernel_rfl, rfl, by decide, by decide⟩
def boolsOf (n : Nat) (gp : Nat → Bool) : List Value := (List.range n).map fun x => .bool (gp x)
theorem boolsOf_get {n : Nat} {gp : Nat → Bool} {x : Nat} (h : x < n) : (boolsOf n gp)[x]? = some (.bool (gp x)) := by simp [boolsOf, h]
theorem filter_snoc {rn : List Nat} {k : Nat} (h : k < rn.length) (q : Nat → Bool) : (rn.take (k + 1)).filter q = (rn.take k).filter q ++ (if q rn[k] then [rn[k]] else []) := by
  rw [List.take_succ_eq_append_getElem h, List.filter_append]
  congr 1
  by_cases e : q rn[k] <;> simp [e]

set_option maxRecDepth 100000 in
set_option maxHeartbeats 4000000 in
theorem l7Left_any (v gv : Value) (g : List (List Int)) (vt n : Nat) (z : Int) (hz : z = vt) (hvt : vt < g.length) (rn : List Nat) (hrn : row g vt = natInts rn) (hlt : ∀ x ∈ rn, x < n) (gp : Nat → Bool) (w : World) (hg : Gr w v g) (hgn : Sl w 4 gv n (boolsOf n gp)) :
    Calls Tryd.prog 124 #[v, .int .i64 z, gv] w fun e w' => ∃ u, e = .returned u ∧
      w'.ownsRow w.heap.size 2 1 u (rn.filter fun x => !gp x).length ((natInts (rn.filter fun x => !gp x)).map (Value.int .i64)) ∧ Below w.heap.size w w' := by
  subst hz
  obtain ⟨u, rfl, hr⟩ := hg
  obtain ⟨p, c, rfl, _⟩ := hr.shape
  obtain ⟨qp, qc, rfl, _⟩ := id hgn
  have hbox := Box.new w (.slice p g.length c) 29
  have hb1 := below_alloc w (.cells #[.slice p g.length c] 29)
  have hr9 : rn.length ≤ 1000000000 := by
    obtain ⟨_, _, _, _, _, _, hn⟩ := hr.get hvt
    obtain ⟨_, _, _, _, _, h9, _⟩ := id hn.shape
    have e : g.getD vt [] = natInts rn := hrn
    rw [e, natInts_length] at h9
    exact h9
  go_enter Tryd.func124, Tryd.ntmps124
  go_upto_region 3 with fail
  go_loopw [7, 8] (fun u i wr => ∃ k : Nat, k ≤ rn.length ∧ i = .int .i64 k ∧ wr.ownsRow (w.heap.size + 1) 2 1 u ((rn.take k).filter fun x => !gp x).length ((natInts ((rn.take k).filter fun x => !gp x)).map (Value.int .i64)) ∧ Below w.heap.size w wr ∧ Box wr w.heap.size 29 (.slice p g.length c))
    (fun _ i _ => rn.length - (intOf i).toNat)
  case atStart => exact ⟨0, Nat.zero_le _, rfl, ownsRow_empty' _ _ _ _ _ (Nat.le_refl _), hb1.alloc (by rw [size_alloc]; omega) _, hbox.alloc _⟩
  case round =>
    clear hbox hb1
    obtain ⟨k, hk, rfl, hown, hbel, hbx⟩ := hrel
    obtain ⟨hc, hf, hlt0, _⟩ := id hbx
    have hsz := hbel.size
    obtain ⟨b, o, rp, rc, rfl, hcell, hnums⟩ := (hr.below hbel).get hvt
    have e : g.getD vt [] = natInts rn := hrn
    rw [e] at hcell hnums
    rw [natInts_length] at hcell hnums
    have Hown := Lib.hid hown
    have Hbx := Lib.hid hbx
    clear hown hbx e
    by_cases hlt2 : k < rn.length
    · have hrnl := natInts_length rn
      have hn' := hnums
      rw [← hrnl] at hn'
      obtain ⟨rb, ro, rfl, hck⟩ := hn'.get (k := k) (by rw [hrnl]; exact hlt2)
      rw [natInts_get hlt2] at hck
      have hxn := hlt _ (List.getElem_mem hlt2)
      obtain ⟨_, _, e1, _, _, _, hat⟩ := Sl.below hgn hbel
      cases e1
      obtain ⟨qb, qo, rfl, hq⟩ := hat.cells (k := rn[k]) (by simp [boolsOf]; exact hxn)
      have hcq : wr.cell? ⟨qb, qo + rn[k], none⟩ = some (.bool (gp rn[k])) := hq _ _ (boolsOf_get hxn)
      have hsn := Lib.hid (filter_snoc hlt2 fun x => !gp x)
      have hfl : ((rn.take k).filter fun x => !gp x).length ≤ k := Nat.le_trans (List.length_filter_le _ _) (by rw [List.length_take]; omega)
      have Hfl := Lib.hid hfl
      obtain ⟨fl, hfle⟩ : ∃ fl, fl = ((rn.take k).filter fun x => !gp x).length := ⟨_, rfl⟩
      have Hfle := Lib.hid hfle
      have hown' := Hown.out
      rw [← hfle] at hown' hfl
      clear hat hq hnums hn' hrnl hfle
      cases hgp : gp rn[k]
      · rw [hgp] at hcq
        have hq1 : (!gp rn[k]) = true := by simp [hgp]
        have hsn2 := hsn.out
        rw [if_pos hq1] at hsn2
        have Hsn := Lib.hid hsn2
        generalize rn[k] = X at hck hcq hxn Hsn
        clear hgp hq1 hsn2 hsn
        go_wp2_with (at_builtin; refine wpList_app1 ty_i64 rfl rfl rfl hown' rfl rfl (by omega) (by omega) ?_; intro v' w1 hown2 hg2 _)
        go_roundw
        case rel =>
          refine ⟨k + 1, by omega, by go_num, ?_, below_grown hbel hown' hg2 (by omega) hsz, Hbx.out.below (below_grown (Below.refl (w.heap.size + 1) wr) hown' hg2 (Nat.le_refl _) (by omega)) (by omega)⟩
          rw [Hsn.out]
          have e2 : natInts ((rn.take k).filter (fun x => !gp x) ++ [X]) = natInts ((rn.take k).filter fun x => !gp x) ++ [(X : Int)] := by simp [natInts]
          rw [e2, List.map_append, List.length_append, ← Hfle.out]
          exact hown2
        case measure => simp [intOf]; omega
      · rw [hgp] at hcq
        have hq1 : ¬ (!gp rn[k]) = true := by simp [hgp]
        have hsn2 := hsn.out
        rw [if_neg hq1, List.append_nil] at hsn2
        have Hsn := Lib.hid hsn2
        generalize rn[k] = X at hck hcq hxn
        clear hgp hq1 hsn2 hsn
        go_wp2
        go_roundw
        case rel => exact ⟨k + 1, by omega, by go_num, by rw [Hsn.out]; exact Hown.out, hbel, Hbx.out⟩
        case measure => simp [intOf]; omega
    · obtain rfl : k = rn.length := by omega
      clear hnums
      go_wp2
      go_ret
      have h := Hown.out
      rw [List.take_length] at h
      exact ⟨_, rfl, ownsRow_base h (by omega), hbel⟩

theorem boolsOf_set {n : Nat} {l : List Nat} {m : Nat} (hm : m < l.length) : (boolsOf n fun x => decide (x ∈ l.take m)).set l[m] (.bool true) = boolsOf n fun x => decide (x ∈ l.take (m + 1)) := by
  refine List.ext_getElem (by simp [boolsOf]) fun j h1 h2 => ?_
  rw [List.getElem_set]
  by_cases e : l[m] = j
  · rw [if_pos e]
    simp [boolsOf, ← e, take_snoc_mem hm]
  · rw [if_neg e]
    have : ¬ j = l[m] := fun h => e h.symm
    simp [boolsOf, take_snoc_mem hm, this]
theorem late_eq {n : Nat} {E : Nat → Nat → Bool} {l : List Nat} {m : Nat} (hm : m < l.length) : ((List.range n).filter (fillP E l m l[m])).filter (fun x => !decide (x ∈ l.take (m + 1))) = lateL n E l m := by
  unfold lateL
  rw [List.filter_filter, getD_nat hm]
  congr 1
  funext x
  unfold laterE
  rw [Bool.eq_iff_iff]
  simp only [Bool.and_eq_true, Bool.not_eq_true', decide_eq_false_iff_not, decide_eq_true_eq]
  exact and_comm

theorem natInts_toNatF {l : List Int} (h : ∀ x ∈ l, 0 ≤ x) : natInts (l.map Int.toNat) = l := by
  unfold natInts
  rw [List.map_map]
  conv => rhs; rw [← List.map_id l]
  exact List.map_congr_left fun x hx => Int.toNat_of_nonneg (h x hx)

structure FL (W0 wr : World) (b5 gb : Nat) (p : Option Addr) (c n : Nat) (E : Nat → Nat → Bool) (l : List Nat) (m q : Nat) : Prop where
  sg : SG wr W0.heap.size (.agg #[.slice p n c]) (matG n (fillP E l m))
  box : Box wr b5 29 (.slice p n c)
  gone : wr.ownsRow gb 4 1 (.slice (some ⟨gb, 0, none⟩) n n) n (boolsOf n fun x => decide (x ∈ l.take q))
  bel : Below W0.heap.size W0 wr
  own : ∀ k, (Value.slice p n c).ownBlock = some k → W0.heap.size ≤ k ∧ k < b5
  hb5 : W0.heap.size ≤ b5
  hgb : b5 < gb

theorem FL.mark {W0 wr : World} {b5 gb : Nat} {p : Option Addr} {c n : Nat} {E : Nat → Nat → Bool} {l : List Nat} {m : Nat} (h : FL W0 wr b5 gb p c n E l m m) (hm : m < l.length) :
    FL W0 (wr.setCell ⟨gb, l[m], none⟩ (.bool true)) b5 gb p c n E l m (m + 1) := by
  obtain ⟨ho2, hg2⟩ := h.gone.stored l[m] (.bool true)
  rw [boolsOf_set hm] at ho2
  have hlt := h.hgb
  have hb := h.hb5
  obtain ⟨u0, vals, h1, h2, h3, h4⟩ := h.sg
  cases h1
  exact ⟨⟨_, vals, rfl, h2, ownsRow_other h3 h.gone hg2 (by decide), fun j hj => (h4 j hj).other h.gone hg2 (by decide)⟩, h.box.setOther (by show b5 ≠ gb; omega) _, ho2, h.bel.setCell (by show W0.heap.size ≤ gb; omega) _, h.own, h.hb5, h.hgb⟩
theorem FL.next {W0 wr w7 : World} {b5 gb : Nat} {p : Option Addr} {c n : Nat} {E : Nat → Nat → Bool} {l : List Nat} {m q : Nat} (h : FL W0 wr b5 gb p c n E l m q) (hb : Below wr.heap.size wr w7) : FL W0 w7 b5 gb p c n E l m q :=
  ⟨h.sg.below hb, h.box.keep hb, ownsRow_below h.gone hb, h.bel.trans (hb.mono h.bel.size), h.own, h.hb5, h.hgb⟩
theorem FL.fill {W0 w7 w8 : World} {b5 gb : Nat} {p : Option Addr} {c n : Nat} {E : Nat → Nat → Bool} {l : List Nat} {m : Nat} (h : FL W0 w7 b5 gb p c n E l m (m + 1))
    (hs : SG w8 W0.heap.size (.agg #[.slice p n c]) (matG n (fillP E l (m + 1)))) (hg : w7.grownBy w8 (Value.slice p n c).ownBlock) : FL W0 (w8.setCell ⟨b5, 0, none⟩ (.slice p n c)) b5 gb p c n E l (m + 1) (m + 1) := by
  have hbox := h.box.grown hg (fun e => by have := (h.own b5 e.symm).2; omega)
  obtain ⟨u0, vals, h1, h2, h3, h4⟩ := h.sg
  cases h1
  exact ⟨hs.setBox hbox _, hbox.set _, ownsRow_setBox (ownsRow_other h.gone h3 hg (by decide)) hbox (by decide) _, (h.bel.grown hg h.bel.size (fun k hk => (h.own k hk).1)).setCell (by show W0.heap.size ≤ b5; exact h.hb5) _, h.own, h.hb5, h.hgb⟩

set_option maxRecDepth 100000 in
set_option maxHeartbeats 4000000 in
theorem l7Fill_any (v lv : Value) (g : List (List Int)) (l : List Int) (hok : GOk g) (hol : OrdOk g.length l) (w : World) (hg : Gr w v g) (hn : Nums w 2 .i64 lv l) :
    Calls Tryd.prog 123 #[v, lv] w fun e w' => ∃ u, e = .returned u ∧ SG w' w.heap.size u (matG g.length (fillP (ofG g) (l.map Int.toNat) l.length)) ∧ Below w.heap.size w w' := by
  have hg0 := hg
  obtain ⟨u, rfl, hr⟩ := hg
  obtain ⟨gp, gc, rfl, _⟩ := hr.shape
  obtain ⟨lp, lc, rfl, _⟩ := id hn.shape
  obtain ⟨ln, hln⟩ : ∃ ln, ln = l.map Int.toNat := ⟨_, rfl⟩
  have hlN : natInts ln = l := by rw [hln]; exact natInts_toNatF fun x hx => (hol.2.1 x hx).1
  have hlt : ∀ v ∈ ln, v < g.length := fun v hv => by
    rw [hln] at hv
    obtain ⟨x, hx, rfl⟩ := List.mem_map.1 hv
    have := hol.2.1 x hx
    omega
  have hlnl : l.length = ln.length := by rw [hln, List.length_map]
  obtain ⟨W0, hW0⟩ : ∃ W0, W0 = (w.alloc (.cells #[.slice gp g.length gc] 29)).alloc (.cells #[.slice none 0 0] 29) := ⟨_, rfl⟩
  have hb0 : Below w.heap.size w W0 := by rw [hW0]; exact below_alloc2 _ _ _
  have hbg : Box W0 w.heap.size 29 (.slice gp g.length gc) := by rw [hW0]; exact (Box.new _ _ _).alloc _
  have hbn : Box W0 (w.heap.size + 1) 29 (.slice none 0 0) := by
    have := Box.new (w.alloc (.cells #[.slice gp g.length gc] 29)) (.slice none 0 0) 29
    rw [size_alloc] at this
    rw [hW0]; exact this
  have sz0 : W0.heap.size = w.heap.size + 2 := by rw [hW0, size_alloc, size_alloc]
  have HB0 := Lib.hid hb0
  have HBG := Lib.hid hbg
  have HBN := Lib.hid hbn
  have HG := Lib.hid (hg0.below hb0)
  have HN := Lib.hid (hn.below hb0)
  have HLT := Lib.hid hlt
  have HOK := Lib.hid hok
  have h16 := hok.le
  have HRL : Hid (∀ j, (row g j).length ≤ 1000) := Lib.hid (fun j => by
    by_cases hj : j < g.length
    · have h1 := setIn_length (by omega) (hok.sets j hj).1; omega
    · rw [row_out hj]; simp)
  rw [← hln]
  have Hlnl := Lib.hid hlnl
  have HLK : Hid (∀ k (h : k < l.length) (h' : k < ln.length), l[k] = ((ln[k] : Nat) : Int)) := Lib.hid (fun k h h' => by
    have e : l[k]? = some ((ln[k] : Nat) : Int) := by
      rw [← hlN]
      simp [natInts, h']
    rw [List.getElem?_eq_getElem h] at e
    exact Option.some.inj e)
  have hl16 : l.length ≤ 16 := by have := hol.1; omega
  clear hr hn hg0 hb0 hbg hbn hlN hlt hln hok hol hlnl
  go_enter Tryd.func123, Tryd.ntmps123
  go_upto_region 1 with fail
  rw [← hW0]
  clear hW0
  have cg0 := HBG.out.cell
  go_upto_region 3 with (first
    | (at_make; refine wpList_mk ty_bool rfl rfl rfl g.length rfl rfl rfl rfl (by omega) ?_; intro w5 hown5 hg5)
    | (go_at_call 143; refine (l1CopyGraph_any _ g (by omega) HRL.out _ HG.out).mono ?_; rintro e w3 ⟨u3, rfl, hs3, hb3⟩; obtain ⟨p, c, rfl⟩ := hs3.shape; have cg3 := fun o => (below_alloc w3 o).at' (hb3.at' cg0))
    | (go_at_call 60; refine (l1Size_any _ g _ ((HG.out.below hb3).below (below_alloc w3 _))).mono ?_; rintro e w4 ⟨rfl, hb4⟩))
  have hb5 := grown_below hg5
  have s3 := hb3.size
  have s4 := hb4.size
  rw [size_alloc] at s4
  have START : Hid (FL W0 w5 w3.heap.size w4.heap.size p c g.length (ofG g) ln 0 0) := Lib.hid
    { sg := (((hs3.below (below_alloc w3 _)).below hb4).below hb5) |> fun h => by rw [show fillP (ofG g) ln 0 = ofG g from rfl, matG_ofG HOK.out]; exact h
      box := ((Box.new w3 _ _).keep hb4).keep hb5
      gone := by
        have e : boolsOf g.length (fun x => decide (x ∈ ln.take 0)) = List.replicate g.length (.bool false) := by
          refine List.ext_getElem (by simp [boolsOf]) fun j h1 h2 => by simp [boolsOf]
        rw [e]; exact hown5
      bel := ((hb3.alloc hb3.size _).trans (hb4.mono (by rw [size_alloc]; omega))).trans (hb5.mono (by omega))
      own := hs3.lt
      hb5 := hb3.size
      hgb := by omega }
  clear hs3 hb3 hb4 hb5 hg5 hown5 cg3 cg0 s3 s4
  go_wp2_with fail
  go_loopw [7] (fun i wr => ∃ k : Nat, k ≤ l.length ∧ i = .int .i64 k ∧ FL W0 wr w3.heap.size w4.heap.size p c g.length (ofG g) ln k k) (fun i _ => l.length - (intOf i).toNat)
  case atStart => exact ⟨0, Nat.zero_le _, rfl, START.out⟩
  case round =>
    obtain ⟨k, hk, rfl, hF⟩ := hrel
    have HF := Lib.hid hF
    clear hF
    by_cases hlt : k < l.length
    · have hkn : k < ln.length := by have := Hlnl.out; omega
      have HF6 := Lib.hid (HF.out.mark hkn)
      have hv := HLT.out _ (List.getElem_mem hkn)
      have hn' := HN.out.below HF.out.bel
      obtain ⟨b, o, rfl, hci⟩ := hn'.get hlt
      rw [HLK.out k hlt hkn] at hci
      have hgc := HF.out.gone.cellAt ln[k] (by omega)
      rw [boolsOf_get hv] at hgc
      have hgf := HF.out.gone.frozenAt ln[k]
      have hblt : b < w4.heap.size := by
        have h2 : b < W0.heap.size := by
          obtain ⟨b2, o2, e2, hc2⟩ := HN.out.get hlt
          cases e2
          exact World.block_lt_of_cell? W0 _ hc2
        have h3 := HF.out.hb5
        have h4 := HF.out.hgb
        omega
      have hgbne : b ≠ w4.heap.size := by omega
      have e0 : (0 : Int) ≤ (k : Int) := by omega
      have e1 : (k : Int) < (l.length : Int) := by omega
      clear hn'
      go_upto_region 7 with fail
      have h6b := HF6.out.box.cell
      have hci6 := ((Below.refl (w4.heap.size) wr).setCell (p := ⟨w4.heap.size, ln[k], none⟩) (Nat.le_refl _) (.bool true)).at hblt hci
      have hml := matG_length g.length (fillP (ofG g) ln k)
      have HL7 : Hid (∀ wz, Below ((wr.setCell ⟨w4.heap.size, ln[k], none⟩ (.bool true))).heap.size (wr.setCell ⟨w4.heap.size, ln[k], none⟩ (.bool true)) wz → Calls Tryd.prog 124 #[.agg #[.slice p g.length c], .int .i64 (ln[k] : Nat), .slice (some ⟨w4.heap.size, 0, none⟩) g.length g.length] wz fun e w' => ∃ (lu : Value), e = .returned lu ∧ Nums w' 2 .i64 lu (natInts (lateL g.length (ofG g) ln k)) ∧ Below wz.heap.size wz w') := Lib.hid (fun wz hbz => by
        have h7 := HF6.out.next hbz
        have := l7Left_any (.agg #[.slice p g.length c]) (.slice (some ⟨w4.heap.size, 0, none⟩) g.length g.length) (matG g.length (fillP (ofG g) ln k)) ln[k] g.length _ rfl (by rw [hml]; exact hv) ((List.range g.length).filter (fillP (ofG g) ln k ln[k])) (row_matG hv) (fun x hx => by simp only [List.mem_filter, List.mem_range] at hx; exact hx.1) (fun x => decide (x ∈ ln.take (k + 1))) wz
          (by have h := h7.sg.gr (by rw [hml]; omega); exact h) (Sl.of_owns h7.gone (by omega))
        refine this.mono fun e w' ⟨lu, he, ho, hb⟩ => ⟨lu, he, ?_, hb⟩
        rw [late_eq hkn] at ho
        exact Nums.of_owns ho (natInts_length _).symm (Nat.le_trans (List.length_filter_le _ _) (by rw [List.length_range]; omega)))
      clear hci hgc hgf hgbne hml
      generalize hW6 : wr.setCell ⟨w4.heap.size, ln[k], none⟩ (.bool true) = w6 at *
      clear hW6
      go_region_law (first
        | (go_simp; go_at_call 124; refine (HL7.out _ (below_dN (Below.refl _ _) 1)).mono ?_; rintro e w7 ⟨lu, rfl, hn7, hb7⟩; have hb7' : Below w6.heap.size w6 w7 := ⟨hb7.os, hb7.tape, hb7.output, hb7.size, hb7.block⟩; have HF7 := Lib.hid (HF6.out.next hb7'); have h7b := HF7.out.box.cell; have hci7 := hb7'.at' hci6; have HN7 := Lib.hid hn7; obtain ⟨lup, luc, rfl, _⟩ := hn7.shape; clear hn7)
        | (go_simp; go_at_call 144; refine (l7Clique_any p c g.length W0.heap.size _ (lateL g.length (ofG g) ln k) (fillP (ofG g) ln k) (by omega) (lateL_rising _ _ _ _) (fun x hx => (mem_lateL.1 hx).1) _ HF7.out.sg HN7.out).mono ?_; rintro e w8 ⟨rfl, hs8, hg8⟩; rw [cliq_end] at hs8; have hbx8 := HF7.out.box.grown hg8 (fun e => by have := (HF7.out.own _ e.symm).2; omega); have hc8 := hbx8.cell; have hf8 := hbx8.free))
      all_goals go_wp2
      all_goals go_roundw
      all_goals first
        | exact ⟨k + 1, by omega, by go_num, HF7.out.fill hs8 hg8⟩
        | (simp [intOf]; omega)
    · obtain rfl : k = l.length := by omega
      have hb5 := HF.out.box.cell
      have hbn2 := HBN.out.below HF.out.bel (by omega)
      obtain ⟨nc, nf, _, _⟩ := id hbn2
      go_wp2
      refine bodyPost_ret (v := .agg #[.slice p g.length c]) (by simp [results, Tryd.results123, go_sem, nc]) rfl ⟨_, rfl, ?_, ?_⟩
      · have hs := (HF.out.sg.setBox hbn2 (.slice p g.length c)).base (base' := w.heap.size) (by omega)
        exact hs
      · exact (HB0.out.trans (HF.out.bel.mono HB0.out.size)).setCell (by show w.heap.size ≤ w.heap.size + 1; omega) _

end Go.Proofs.YtfokiijcpkhllaaDoor
