/- Walk: the reference's later neighbours. -/
import Derived.Test.YtfokiijcpkhllaaDoorFdQ25
import Derived.Test.YtfokiijcpkhllaaDoorFdQ22
import Derived.Test.YtfokiijcpkhllaaDoorFdQ26
import Derived.Test.YtfokiijcpkhllaaDoorFdQ9
import Derived.Test.YtfokiijcpkhllaaDoorFdQ18
import Derived.Deep.RegionHeld3
import Derived.Deep.DeepCutAuto
import Derived.Deep.RegionLaw
namespace Go.Proofs.YtfokiijcpkhllaaDoor
open Go.RowKit

theorem nums_none (w : World) (E : TypeId) : Nums w E .i64 (.slice none 0 0) [] := ⟨none, 0, rfl, fun _ => ⟨rfl, rfl⟩, Nat.le_refl _, by simp, .inl rfl⟩

structure LL (W0 wr : World) (b5 gb ob : Nat) (p : Option Addr) (c n : Nat) (E : Nat → Nat → Bool) (l : List Nat) (m q : Nat) : Prop where
  sg : SG wr W0.heap.size (.agg #[.slice p n c]) (matG n (fillP E l l.length))
  box : Box wr b5 29 (.slice p n c)
  gone : wr.ownsRow gb 4 1 (.slice (some ⟨gb, 0, none⟩) n n) n (boolsOf n fun x => decide (x ∈ l.take q))
  out : SG wr ob (.agg #[.slice (some ⟨ob, 0, none⟩) n n]) (laterRows n E l m)
  bel : Below W0.heap.size W0 wr
  own : ∀ k, (Value.slice p n c).ownBlock = some k → W0.heap.size ≤ k ∧ k < b5
  hb5 : W0.heap.size ≤ b5
  hgb : b5 < gb
  hob : gb < ob

theorem LL.mark {W0 wr : World} {b5 gb ob : Nat} {p : Option Addr} {c n : Nat} {E : Nat → Nat → Bool} {l : List Nat} {m : Nat} (h : LL W0 wr b5 gb ob p c n E l m m) (hm : m < l.length) :
    LL W0 (wr.setCell ⟨gb, l[m], none⟩ (.bool true)) b5 gb ob p c n E l m (m + 1) := by
  obtain ⟨ho2, hg2⟩ := h.gone.stored l[m] (.bool true)
  rw [boolsOf_set hm] at ho2
  have hlt := h.hgb
  have hb := h.hb5
  obtain ⟨u0, vals, h1, h2, h3, h4⟩ := h.sg
  cases h1
  obtain ⟨u1, vals1, i1, i2, i3, i4⟩ := h.out
  cases i1
  exact ⟨⟨_, vals, rfl, h2, ownsRow_other h3 h.gone hg2 (by decide), fun j hj => (h4 j hj).other h.gone hg2 (by decide)⟩, h.box.setOther (by show b5 ≠ gb; omega) _, ho2,
    ⟨_, vals1, rfl, i2, ownsRow_other i3 h.gone hg2 (by decide), fun j hj => (i4 j hj).other h.gone hg2 (by decide)⟩, h.bel.setCell (by show W0.heap.size ≤ gb; omega) _, h.own, h.hb5, h.hgb, h.hob⟩
theorem LL.next {W0 wr w7 : World} {b5 gb ob : Nat} {p : Option Addr} {c n : Nat} {E : Nat → Nat → Bool} {l : List Nat} {m q : Nat} (h : LL W0 wr b5 gb ob p c n E l m q) (hb : Below wr.heap.size wr w7) : LL W0 w7 b5 gb ob p c n E l m q :=
  ⟨h.sg.below hb, h.box.keep hb, ownsRow_below h.gone hb, h.out.below hb, h.bel.trans (hb.mono h.bel.size), h.own, h.hb5, h.hgb, h.hob⟩
theorem LL.store {W0 wr : World} {b5 gb ob : Nat} {p : Option Addr} {c n : Nat} {E : Nat → Nat → Bool} {l : List Nat} {m : Nat} (h : LL W0 wr b5 gb ob p c n E l m (m + 1)) (hn16 : n ≤ 16) (hl : ∀ v ∈ l, v < n) (hm : m < l.length)
    {lu : Value} (hn : Nums wr 2 .i64 lu (natInts (lateL n E l m))) : LL W0 (wr.setCell ⟨ob, l[m], none⟩ lu) b5 gb ob p c n E l (m + 1) (m + 1) := by
  obtain ⟨u0, vals, h1, h2, h3, h4⟩ := h.sg
  cases h1
  obtain ⟨u1, vals1, i1, i2, i3, i4⟩ := h.out
  cases i1
  have lr := laterRows_length n E l m
  rw [lr] at i3 i2 i4
  obtain ⟨j3, hg⟩ := i3.stored l[m] lu
  have b1 := h.hb5
  have b2 := h.hgb
  have b3 := h.hob
  have hv := hl _ (List.getElem_mem hm)
  refine ⟨⟨_, vals, rfl, h2, h3.kept hg ?_, fun j hj => (h4 j hj).other i3 hg (by decide)⟩, h.box.setOther (by show b5 ≠ ob; omega) _, ownsRow_other h.gone i3 hg (by decide),
    ⟨_, vals1.set l[m] lu, rfl, by rw [laterRows_length, List.length_set, i2], by rw [laterRows_length]; exact j3, fun j hj => ?_⟩, h.bel.setCell (by show W0.heap.size ≤ ob; omega) _, h.own, h.hb5, h.hgb, h.hob⟩
  · cases hob : (Value.slice p n c).ownBlock with
    | none => exact .inl rfl
    | some bb =>
      have := (h.own bb hob).2
      exact .inr fun e => by
        cases e
        omega
  · rw [laterRows_length] at hj
    rw [← laterRows_step hn16 hl hm]
    by_cases e : l[m] = j
    · subst e
      have e1 : (vals1.set l[m] lu).getD l[m] undef = lu := getD_set_self _ _ _ _ (by omega)
      have e2 : row ((laterRows n E l m).set l[m] (natInts (lateL n E l m))) l[m] = natInts (lateL n E l m) := getD_set_self _ _ _ _ (by omega)
      rw [e1, e2]
      exact hn.other i3 hg (by decide)
    · have e1 : (vals1.set l[m] lu).getD j undef = vals1.getD j undef := getD_set_other _ _ _ _ _ e
      have e2 : row ((laterRows n E l m).set l[m] (natInts (lateL n E l m))) j = row (laterRows n E l m) j := getD_set_other _ _ _ _ _ e
      rw [e1, e2]
      exact (i4 j hj).other i3 hg (by decide)

theorem LL.outCell {W0 wr : World} {b5 gb ob : Nat} {p : Option Addr} {c n : Nat} {E : Nat → Nat → Bool} {l : List Nat} {m q : Nat} (h : LL W0 wr b5 gb ob p c n E l m q) {u : Nat} (hu : u < n) : ∃ x, wr.cell? ⟨ob, u, none⟩ = some x := by
  obtain ⟨u1, vals1, i1, i2, i3, i4⟩ := h.out
  cases i1
  rw [laterRows_length] at i3 i2
  rw [i3.cellAt u (by omega), List.getElem?_eq_getElem (by omega)]
  exact ⟨_, rfl⟩
theorem LL.outFree {W0 wr : World} {b5 gb ob : Nat} {p : Option Addr} {c n : Nat} {E : Nat → Nat → Bool} {l : List Nat} {m q : Nat} (h : LL W0 wr b5 gb ob p c n E l m q) (u : Nat) : wr.frozen? ⟨ob, u, none⟩ = false := by
  obtain ⟨u1, vals1, i1, i2, i3, i4⟩ := h.out
  cases i1
  rw [laterRows_length] at i3
  exact i3.frozenAt u

set_option maxRecDepth 100000 in
set_option maxHeartbeats 4000000 in
theorem l7Later_any (v lv : Value) (g : List (List Int)) (l : List Int) (hok : GOk g) (hol : OrdOk g.length l) (w : World) (hg : Gr w v g) (hn : Nums w 2 .i64 lv l) :
    Calls Tryd.prog 78 #[v, lv] w fun e w' => ∃ u, e = .returned u ∧ SG w' w.heap.size (.agg #[u]) (laterRows g.length (ofG g) (l.map Int.toNat) l.length) ∧ Below w.heap.size w w' := by
  have hg0 := hg
  obtain ⟨u, rfl, hr⟩ := hg
  obtain ⟨gp, gc, rfl, _⟩ := hr.shape
  obtain ⟨lp, lc, rfl, _⟩ := id hn.shape
  obtain ⟨ln, hln⟩ : ∃ ln, ln = l.map Int.toNat := ⟨_, rfl⟩
  have hlN : natInts ln = l := by rw [hln]; exact natInts_toNatF fun x hx => (hol.2.1 x hx).1
  have hlt : ∀ v ∈ ln, v < g.length := fun v hv => by
    rw [hln] at hv
    obtain ⟨x, hx, rfl⟩ := List.mem_map.1 hv
    have := hol.2.1 x hx
    omega
  have hlnl : l.length = ln.length := by rw [hln, List.length_map]
  obtain ⟨W0, hW0⟩ : ∃ W0, W0 = w.alloc (.cells #[.slice gp g.length gc] 29) := ⟨_, rfl⟩
  have hb0 : Below w.heap.size w W0 := by rw [hW0]; exact below_alloc _ _
  have hbg : Box W0 w.heap.size 29 (.slice gp g.length gc) := by rw [hW0]; exact Box.new _ _ _
  have sz0 : W0.heap.size = w.heap.size + 1 := by rw [hW0, size_alloc]
  have HB0 := Lib.hid hb0
  have HBG := Lib.hid hbg
  have HG := Lib.hid (hg0.below hb0)
  have HN := Lib.hid (hn.below hb0)
  have HLT := Lib.hid hlt
  have HOK := Lib.hid hok
  have HOL := Lib.hid hol
  have h16 := hok.le
  have HLE := Lib.hid hln
  have Hlnl := Lib.hid hlnl
  have HLK : Hid (∀ k (h : k < l.length) (h' : k < ln.length), l[k] = ((ln[k] : Nat) : Int)) := Lib.hid (fun k h h' => by
    have e : l[k]? = some ((ln[k] : Nat) : Int) := by
      rw [← hlN]
      simp [natInts, h']
    rw [List.getElem?_eq_getElem h] at e
    exact Option.some.inj e)
  have hl16 : l.length ≤ 16 := by have := hol.1; omega
  clear hr hn hg0 hb0 hbg hlN hlt hln hok hol hlnl
  go_enter Tryd.func78, Tryd.ntmps78
  go_upto_region 1 with fail
  rw [← hW0]
  clear hW0
  have cg0 := HBG.out.cell
  go_upto_region 5 with (first
    | (go_at_call 60; refine (l1Size_any _ g _ ((HG.out.below hb3).below (below_alloc w3 _))).mono ?_; rintro e w4 ⟨rfl, hb4⟩; have cg4 := hb4.at' (cg3 (.cells #[.slice p (matG g.length (fillP (ofG g) (l.map Int.toNat) l.length)).length c] 29)))
    | (go_at_call 60; refine (l1Size_any _ g _ ((((HG.out.below hb3).below (below_alloc w3 _)).below hb4).below (grown_below hg5))).mono ?_; rintro e w6 ⟨rfl, hb6⟩)
    | (at_make; refine wpList_mk ty_rows64 rfl rfl rfl g.length rfl rfl rfl rfl (by omega) ?_; intro w7 hown7 hg7)
    | (at_make; refine wpList_mk ty_bool rfl rfl rfl g.length rfl rfl rfl rfl (by omega) ?_; intro w5 hown5 hg5; have cg5 := (grown_below hg5).at' cg4)
    | (go_at_call 123; refine (l7Fill_any _ _ g l HOK.out HOL.out _ HG.out HN.out).mono ?_; rintro e w3 ⟨u3, rfl, hs3, hb3⟩; obtain ⟨p, c, rfl⟩ := hs3.shape; have cg3 := fun o => (below_alloc w3 o).at' (hb3.at' cg0)))
  have hb5 := grown_below hg5
  have hb7 := grown_below hg7
  have s3 := hb3.size
  have s4 := hb4.size
  rw [size_alloc] at s4
  have s5 := hb5.size
  have s6 := hb6.size
  have s5' := (hown5.lt w4.heap.size rfl).2
  have hml := matG_length g.length (fillP (ofG g) (l.map Int.toNat) l.length)
  rw [hml]
  rw [hml] at hs3 hb4
  have START : Hid (LL W0 w7 w3.heap.size w4.heap.size w6.heap.size p c g.length (ofG g) ln 0 0) := Lib.hid
    { sg := by
        have h := (((((hs3.below (below_alloc w3 _)).below hb4).below hb5).below hb6).below hb7)
        rw [HLE.out, List.length_map]
        exact h
      box := ((((Box.new w3 _ _).keep hb4).keep hb5).keep hb6).keep hb7
      gone := by
        have e : boolsOf g.length (fun x => decide (x ∈ ln.take 0)) = List.replicate g.length (.bool false) := by
          refine List.ext_getElem (by simp [boolsOf]) fun j h1 h2 => by simp [boolsOf]
        rw [e]; exact ownsRow_below (ownsRow_below hown5 hb6) hb7
      out := by
        refine ⟨_, List.replicate g.length (.slice none 0 0), rfl, by rw [laterRows_length, List.length_replicate], by rw [laterRows_length]; exact hown7, fun j hj => ?_⟩
        rw [laterRows_length] at hj
        rw [laterRows_start]
        have e1 : (List.replicate g.length (Value.slice none 0 0)).getD j undef = .slice none 0 0 := by simp [hj]
        have e2 : row (List.replicate g.length ([] : List Int)) j = [] := by simp [row, hj]
        rw [e1, e2]
        exact nums_none _ _
      bel := ((((hb3.alloc hb3.size _).trans (hb4.mono (by rw [size_alloc]; omega))).trans (hb5.mono (by omega))).trans (hb6.mono (by omega))).trans (hb7.mono (by omega))
      own := hs3.lt
      hb5 := hb3.size
      hgb := by omega
      hob := by omega }
  clear hs3 hb3 hb4 hb5 hb6 hb7 hg5 hg7 hown5 hown7 cg3 cg0 cg4 cg5 s3 s4 s5 s6 s5'
  go_loopw [8] (fun i wr => ∃ k : Nat, k ≤ l.length ∧ i = .int .i64 k ∧ LL W0 wr w3.heap.size w4.heap.size w6.heap.size p c g.length (ofG g) ln k k) (fun i _ => l.length - (intOf i).toNat)
  case atStart => exact ⟨0, Nat.zero_le _, rfl, START.out⟩
  case round =>
    obtain ⟨k, hk, rfl, hF⟩ := hrel
    have HF := Lib.hid hF
    clear hF
    by_cases hlt : k < l.length
    · have hkn : k < ln.length := by have := Hlnl.out; omega
      have HF6 := Lib.hid (HF.out.mark hkn)
      have hv := HLT.out _ (List.getElem_mem hkn)
      have hn' := HN.out.below HF.out.bel
      obtain ⟨b, o, rfl, hci⟩ := hn'.get hlt
      rw [HLK.out k hlt hkn] at hci
      have hgc := HF.out.gone.cellAt ln[k] (by omega)
      rw [boolsOf_get hv] at hgc
      have hgf := HF.out.gone.frozenAt ln[k]
      have hblt : b < W0.heap.size := by
        obtain ⟨b2, o2, e2, hc2⟩ := HN.out.get hlt
        cases e2
        exact World.block_lt_of_cell? W0 _ hc2
      have hb53 := HF.out.hb5
      have hgb4 := HF.out.hgb
      have hob6 := HF.out.hob
      have hgbne : b ≠ w4.heap.size := by omega
      have e0 : (0 : Int) ≤ (k : Int) := by omega
      have e1 : (k : Int) < (l.length : Int) := by omega
      clear hn'
      go_upto_region 8 with fail
      have h6b := HF6.out.box.cell
      have hci6 := ((Below.refl (w4.heap.size) wr).setCell (p := ⟨w4.heap.size, ln[k], none⟩) (Nat.le_refl _) (.bool true)).at (by show b < w4.heap.size; omega) hci
      have hml2 := matG_length g.length (fillP (ofG g) ln ln.length)
      have HL7 : Hid (∀ wz, Below ((wr.setCell ⟨w4.heap.size, ln[k], none⟩ (.bool true))).heap.size (wr.setCell ⟨w4.heap.size, ln[k], none⟩ (.bool true)) wz → Calls Tryd.prog 124 #[.agg #[.slice p g.length c], .int .i64 (ln[k] : Nat), .slice (some ⟨w4.heap.size, 0, none⟩) g.length g.length] wz fun e w' => ∃ (lu : Value), e = .returned lu ∧ Nums w' 2 .i64 lu (natInts (lateL g.length (ofG g) ln k)) ∧ Below wz.heap.size wz w') := Lib.hid (fun wz hbz => by
        have h7 := HF6.out.next hbz
        have := l7Left_any (.agg #[.slice p g.length c]) (.slice (some ⟨w4.heap.size, 0, none⟩) g.length g.length) (matG g.length (fillP (ofG g) ln ln.length)) ln[k] g.length _ rfl (by rw [hml2]; exact hv) ((List.range g.length).filter (fillP (ofG g) ln ln.length ln[k])) (row_matG hv) (fun x hx => by simp only [List.mem_filter, List.mem_range] at hx; exact hx.1) (fun x => decide (x ∈ ln.take (k + 1))) wz
          (by have h := h7.sg.gr (by rw [hml2]; omega); exact h) (Sl.of_owns h7.gone (by omega))
        refine this.mono fun e w' ⟨lu, he, ho, hb⟩ => ⟨lu, he, ?_, hb⟩
        rw [late_final hkn] at ho
        exact Nums.of_owns ho (natInts_length _).symm (Nat.le_trans (List.length_filter_le _ _) (by rw [List.length_range]; omega)))
      clear hci hgc hgf hgbne hml2
      generalize hW6 : wr.setCell ⟨w4.heap.size, ln[k], none⟩ (.bool true) = w6' at *
      clear hW6
      obtain ⟨ov6, ho6⟩ := HF6.out.outCell hv
      have hf6 := HF6.out.outFree ln[k]
      go_region_law (first
        | (go_simp; go_at_call 124; refine (HL7.out _ (below_dN (Below.refl _ _) 1)).mono ?_; rintro e w7' ⟨lu, rfl, hn7, hb7⟩; have hb7' : Below w6'.heap.size w6' w7' := ⟨hb7.os, hb7.tape, hb7.output, hb7.size, hb7.block⟩; have HF7 := Lib.hid (HF6.out.next hb7'); have h7b := HF7.out.box.cell; have hci7 := hb7'.at' hci6; have HN7 := Lib.hid hn7; have ho7 := hb7'.at' ho6; have hf7 := HF7.out.outFree ln[k]; obtain ⟨lup, luc, rfl, _⟩ := hn7.shape; clear hn7))
      all_goals go_wp2
      all_goals go_roundw
      all_goals first
        | (simp [intOf]; omega)
        | exact ⟨k + 1, by omega, by go_num, HF7.out.store h16 HLT.out hkn HN7.out⟩
    · obtain rfl : k = l.length := by omega
      go_wp2
      go_ret
      have h := HF.out.out.base (base' := w.heap.size) (by have := HF.out.hb5; have := HF.out.hgb; have := HF.out.hob; omega)
      rw [HLE.out] at h
      exact ⟨_, rfl, h, HB0.out.trans (HF.out.bel.mono HB0.out.size)⟩

end Go.Proofs.YtfokiijcpkhllaaDoor

/- Walks: an order of the vertices, of the reference. -/
namespace Go.Proofs.YtfokiijcpkhllaaDoor
open Go.RowKit

set_option maxRecDepth 100000 in
theorem l1There_any (v : Value) (g : List (List Int)) (x : Int) (w : World) (hg : Gr w v g) (hn : g.length ≤ 1000000000) :
    Calls Tryd.prog 59 #[v, .int .i64 x] w fun e w' => e = .returned (.bool (dec (0 ≤ x ∧ x < g.length))) ∧ Below w.heap.size w w' := by
  have hg0 := hg
  obtain ⟨u, rfl, hr⟩ := hg
  obtain ⟨p, c, rfl, _⟩ := hr.shape
  have hbA := Lib.hid (below_alloc w (.cells #[.slice p g.length c] 29))
  have HG := Lib.hid (hg0.below hbA.out)
  clear hr hg0
  go_enter Tryd.func59, Tryd.ntmps59
  go_wp2_with (first
    | (go_at_call 101; refine (l1In_any _ _ _ _).mono ?_; rintro e w3 ⟨rfl, rfl⟩)
    | (go_at_call 60; refine (l1Size_any _ g _ HG.out).mono ?_; rintro e w2 ⟨rfl, hb2⟩))
  go_ret
  exact ⟨ret_bool (dec_congr (by omega)), hbA.out.trans (hb2.mono hbA.out.size)⟩

set_option maxRecDepth 100000 in
set_option maxHeartbeats 4000000 in
theorem l1Order_any (v lv : Value) (g : List (List Int)) (l : List Int) (hgl : g.length ≤ 1000000000) (w : World) (hg : Gr w v g) (hn : Nums w 2 .i64 lv l) :
    Calls Tryd.prog 77 #[v, lv] w fun e w' => e = .returned (.bool (dec (OrdOk g.length l))) ∧ Below w.heap.size w w' := by
  have hg0 := hg
  obtain ⟨u, rfl, hr⟩ := hg
  obtain ⟨p, c, rfl, _⟩ := hr.shape
  obtain ⟨lp, lc, rfl, hlp, hlc, hll, _⟩ := id hn.shape
  have hbA := Lib.hid (below_alloc w (.cells #[.slice p g.length c] 29))
  have BX := Lib.hid (Box.new w (.slice p g.length c) 29)
  have HG := Lib.hid (hg0.below hbA.out)
  have HN := Lib.hid (hn.below hbA.out)
  clear hr hg0 hn hlp
  by_cases hlen : l.length = g.length
  case neg =>
    have hne : ((l.length : Int) != (g.length : Int)) = true := by simp; omega
    go_enter Tryd.func77, Tryd.ntmps77
    go_wp2_with (go_at_call 60; refine (l1Size_any _ g _ HG.out).mono ?_; rintro e w2 ⟨rfl, hb2⟩)
    go_ret
    exact ⟨ret_bool (false_dec fun h => hlen h.1), hbA.out.trans (hb2.mono hbA.out.size)⟩
  have hne : ((l.length : Int) != (g.length : Int)) = false := by simp; omega
  have Hlen := Lib.hid hlen
  clear hlen
  go_enter Tryd.func77, Tryd.ntmps77
  go_wp2_with (go_at_call 60; refine (l1Size_any _ g _ HG.out).mono ?_; rintro e w2 ⟨rfl, hb2⟩)
  have HB2 := Lib.hid hb2
  have hsA := hbA.out.size
  clear hb2
  go_loopw [5] (fun i wr => ∃ k : Nat, k ≤ l.length ∧ i = .int .i64 k ∧ (∀ x ∈ l.take k, 0 ≤ x ∧ x < g.length) ∧ (l.take k).Nodup ∧ Below (w.alloc (.cells #[.slice p g.length c] 29)).heap.size (w.alloc (.cells #[.slice p g.length c] 29)) wr) (fun i _ => l.length - (intOf i).toNat)
  case atStart => exact ⟨0, Nat.zero_le _, rfl, by simp, by simp, HB2.out⟩
  case round =>
    obtain ⟨k, hk, rfl, hin, hnd, hbel⟩ := hrel
    have Hin := Lib.hid hin
    have Hnd := Lib.hid hnd
    have HBw := Lib.hid (hbA.out.trans (hbel.mono hsA))
    clear hin hnd
    by_cases hlt : k < l.length
    · have hn' := Lib.hid (HN.out.below hbel)
      obtain ⟨b, o, rfl, hc⟩ := hn'.out.get hlt
      have hbx := (BX.out.keep hbel).cell
      have hGr := Lib.hid (HG.out.below hbel)
      have hpre : Hid (Nums wr 2 .i64 (.slice (some ⟨b, o, none⟩) k lc) (l.take k)) := by
        obtain ⟨_, _, e1, _, _, _, hat⟩ := id hn'.out.shape
        cases e1
        have hlk : (l.take k).length = k := by rw [List.length_take]; omega
        refine Lib.hid ⟨_, _, by rw [hlk], (fun e => by cases e), by omega, by omega, ?_⟩
        rw [List.map_take]
        exact hat.take k
      have hx := Lib.hid (take_snoc l k hlt)
      have e0 : (0 : Int) ≤ (k : Int) := by omega
      have e1 : (k : Int) ≤ (lc : Int) := by omega
      have e2 : k ≤ lc := by omega
      have HBel := Lib.hid hbel
      clear hbel
      generalize hX : l[k] = X at hc hx
      by_cases hX1 : 0 ≤ X ∧ X < g.length
      case neg =>
        have hd := dec_false hX1
        have HX1 := Lib.hid hX1
        have hmem : Hid (X ∈ l) := Lib.hid (hX ▸ List.getElem_mem hlt)
        clear hX1 hX
        go_upto_region 6 with fail
        go_cut [33] (fun s wx => s = .bool true ∧ Below wr.heap.size wr wx)
        case first =>
          refine wp_region_held_drew (S := fun w' => w'.cell? ⟨w.heap.size, 0, none⟩ = some (.slice p g.length c) ∧ w'.cell? ⟨b, o + k, none⟩ = some (.int .i64 X)) (by kernel_rfl) ?_ (fun hHeld => ?_)
          · exact ⟨hbx, hc⟩
          refine wpAnyH_take (i := 0) (v := .agg #[.slice p g.length c]) rfl (by kernel_rfl) (by kernel_rfl) (by kernel_rfl) (fun _ _ _ h => h) (Or.inl ⟨by rfl, ?_⟩) (by assumption) ?_
          · intro wz hSw; (try dsimp only at hSw); go_simp; try rfl
          try simp only [Act.put, List.setIfInBounds_toArray, List.set_cons_zero, List.set_cons_succ]
          refine wpAnyH_take (i := 1) (v := .slice (some ⟨b, o, none⟩) l.length lc) rfl (by kernel_rfl) (by kernel_rfl) (by kernel_rfl) (fun _ _ _ h => h) (Or.inl ⟨by rfl, ?_⟩) (by assumption) ?_
          · intro wz hSw; (try dsimp only at hSw); go_simp; try rfl
          try simp only [Act.put, List.setIfInBounds_toArray, List.set_cons_zero, List.set_cons_succ]
          refine wpAnyH_take (i := 2) (v := .int .i64 k) rfl (by kernel_rfl) (by kernel_rfl) (by kernel_rfl) (fun _ _ _ h => h) (Or.inl ⟨by rfl, ?_⟩) (by assumption) ?_
          · intro wz hSw; (try dsimp only at hSw); go_simp; try rfl
          try simp only [Act.put, List.setIfInBounds_toArray, List.set_cons_zero, List.set_cons_succ]
          refine wpAnyH_take (i := 3) (v := .pointer (some ⟨b, o + k, none⟩)) rfl (by kernel_rfl) (by kernel_rfl) (by kernel_rfl) (fun _ _ _ h => h) (Or.inl ⟨by rfl, ?_⟩) (by assumption) ?_
          · intro wz hSw; (try dsimp only at hSw); go_simp; try rfl
          try simp only [Act.put, List.setIfInBounds_toArray, List.set_cons_zero, List.set_cons_succ]
          refine wpAnyH_take (i := 4) (v := .int .i64 X) rfl (by kernel_rfl) (by kernel_rfl) (by kernel_rfl) (fun _ _ _ h => h) (Or.inl ⟨by rfl, ?_⟩) (by assumption) ?_
          · intro wz hSw; (try dsimp only at hSw); go_simp; try rfl
          try simp only [Act.put, List.setIfInBounds_toArray, List.set_cons_zero, List.set_cons_succ]
          refine wpAnyH_ready (rs := [5]) (by kernel_rfl) (by simp) ?_
          refine AllReadyH.cons rfl (fun K hK => ?_) AllReadyH.nil
          go_simp
          go_at_call 59
          refine (l1There_any _ g X _ (hGr.out.below (below_dN (Below.refl _ _) 1)) hgl).mono ?_
          rintro e w4 ⟨he4, hb4⟩
          rw [hd] at he4
          subst he4
          have hb4' : Below wr.heap.size wr w4 := (below_dN (Below.refl _ _) 1).trans hb4
          refine hK.out _ _ ?_ (fun hHeld => ?_)
          · exact ⟨hb4'.at' hbx, hb4'.at' hc⟩
          clear hK K
          try simp only [Act.put, List.setIfInBounds_toArray, List.set_cons_zero, List.set_cons_succ]
          refine wpAnyH_take (i := 6) (v := .bool true) rfl (by kernel_rfl) (by kernel_rfl) (by kernel_rfl) (fun _ _ _ h => h) (Or.inl ⟨by rfl, ?_⟩) (by assumption) ?_
          · intro wz hSw; (try dsimp only at hSw); go_simp; try rfl
          try simp only [Act.put, List.setIfInBounds_toArray, List.set_cons_zero, List.set_cons_succ]
          refine wpAnyH_take (i := 7) (v := .bool true) rfl (by kernel_rfl) (by kernel_rfl) (by kernel_rfl) (fun _ _ _ h => h) (Or.inl ⟨by rfl, ?_⟩) (by assumption) ?_
          · intro wz hSw; (try dsimp only at hSw); go_simp; try rfl
          try simp only [Act.put, List.setIfInBounds_toArray, List.set_cons_zero, List.set_cons_succ]
          refine wpAnyH_take (i := 8) (v := undef) rfl (by kernel_rfl) (by kernel_rfl) (by kernel_rfl) (fun _ _ _ h => h) (Or.inr ⟨by kernel_rfl, rfl⟩) (by assumption) ?_
          try simp only [Act.put, List.setIfInBounds_toArray, List.set_cons_zero, List.set_cons_succ]
          refine wpAnyH_take (i := 9) (v := undef) rfl (by kernel_rfl) (by kernel_rfl) (by kernel_rfl) (fun _ _ _ h => h) (Or.inr ⟨by kernel_rfl, rfl⟩) (by assumption) ?_
          try simp only [Act.put, List.setIfInBounds_toArray, List.set_cons_zero, List.set_cons_succ]
          refine wpAnyH_take (i := 10) (v := undef) rfl (by kernel_rfl) (by kernel_rfl) (by kernel_rfl) (fun _ _ _ h => h) (Or.inr ⟨by kernel_rfl, rfl⟩) (by assumption) ?_
          try simp only [Act.put, List.setIfInBounds_toArray, List.set_cons_zero, List.set_cons_succ]
          refine wpAnyH_take (i := 11) (v := undef) rfl (by kernel_rfl) (by kernel_rfl) (by kernel_rfl) (fun _ _ _ h => h) (Or.inr ⟨by kernel_rfl, rfl⟩) (by assumption) ?_
          try simp only [Act.put, List.setIfInBounds_toArray, List.set_cons_zero, List.set_cons_succ]
          refine wpAnyH_take (i := 12) (v := undef) rfl (by kernel_rfl) (by kernel_rfl) (by kernel_rfl) (fun _ _ _ h => h) (Or.inr ⟨by kernel_rfl, rfl⟩) (by assumption) ?_
          try simp only [Act.put, List.setIfInBounds_toArray, List.set_cons_zero, List.set_cons_succ]
          refine wpAnyH_take (i := 13) (v := undef) rfl (by kernel_rfl) (by kernel_rfl) (by kernel_rfl) (fun _ _ _ h => h) (Or.inr ⟨by kernel_rfl, rfl⟩) (by assumption) ?_
          try simp only [Act.put, List.setIfInBounds_toArray, List.set_cons_zero, List.set_cons_succ]
          refine wpAnyH_take (i := 14) (v := undef) rfl (by kernel_rfl) (by kernel_rfl) (by kernel_rfl) (fun _ _ _ h => h) (Or.inr ⟨by kernel_rfl, rfl⟩) (by assumption) ?_
          try simp only [Act.put, List.setIfInBounds_toArray, List.set_cons_zero, List.set_cons_succ]
          refine wpAnyH_take (i := 15) (v := undef) rfl (by kernel_rfl) (by kernel_rfl) (by kernel_rfl) (fun _ _ _ h => h) (Or.inr ⟨by kernel_rfl, rfl⟩) (by assumption) ?_
          simp only [Act.put, List.getElem_toArray, List.getElem_cons_succ, List.getElem_cons_zero, List.setIfInBounds_toArray, List.set_cons_zero, List.set_cons_succ]
          refine wpAnyH_take (i := 16) (v := .bool true) rfl (by kernel_rfl) (by kernel_rfl) (by kernel_rfl) (fun _ _ _ h => h) (Or.inl ⟨by rfl, ?_⟩) (by assumption) ?_
          · intro wz hSw; (try dsimp only at hSw); go_simp; try rfl
          simp only [Act.put, List.getElem_toArray, List.getElem_cons_succ, List.getElem_cons_zero, List.setIfInBounds_toArray, List.set_cons_zero, List.set_cons_succ]
          refine wpAnyH_done (by kernel_rfl) ?_ _
          go_wp2
          go_meet
          exact ⟨by kernel_rfl, hb4'⟩
        case rest =>
          obtain ⟨rfl, hbc⟩ := hcut
          go_wp2
          go_ret
          exact ⟨ret_bool (false_dec fun h => HX1.out (h.2.1 _ hmem.out)), HBw.out.trans (hbc.mono HBw.out.size)⟩
      have hd := dec_true hX1
      have HX1 := Lib.hid hX1
      clear hX1
      by_cases hX2 : X ∈ l.take k
      case pos =>
        have hd2 := dec_true hX2
        have hnot : Hid (¬ l.Nodup) := Lib.hid (fun h => by
          have h1 : (l.take (k + 1)).Nodup := h.sublist (List.take_sublist _ _)
          rw [hx.out] at h1
          exact (nodup_snoc.1 h1).2 hX2)
        clear hX2 hX
        go_upto_region 6 with fail
        go_cut [33] (fun s wx => s = .bool true ∧ Below wr.heap.size wr wx)
        case first =>
          go_region_held3 (fun w' => w'.cell? ⟨w.heap.size, 0, none⟩ = some (.slice p g.length c) ∧ w'.cell? ⟨b, o + k, none⟩ = some (.int .i64 X))
            (first | go_keep | exact ⟨hb4'.at' hbx, hb4'.at' hc⟩)
            (first | (go_at_call 59; refine (l1There_any _ g X _ (hGr.out.below (below_dN (Below.refl _ _) 1)) hgl).mono ?_; rintro e w4 ⟨he4, hb4⟩; rw [hd] at he4; subst he4; have hb4' : Below wr.heap.size wr w4 := (below_dN (Below.refl _ _) 1).trans hb4) | (go_at_call 66; refine (l1Has_any _ _ X _ (hpre.out.below hb4')).mono ?_; rintro e w5 ⟨he5, rfl⟩; rw [hd2] at he5; subst he5))
          all_goals go_wp2
          all_goals go_meet
          all_goals exact ⟨rfl, hb4'⟩
        case rest =>
          obtain ⟨rfl, hbc⟩ := hcut
          go_wp2
          go_ret
          exact ⟨ret_bool (false_dec fun h => hnot.out h.2.2), HBw.out.trans (hbc.mono HBw.out.size)⟩
      case neg =>
        have hd2 := dec_false hX2
        have HX2 := Lib.hid hX2
        clear hX2 hX
        go_upto_region 6 with fail
        go_cut [33] (fun s wx => s = .bool false ∧ Below wr.heap.size wr wx)
        case first =>
          go_region_held3 (fun w' => w'.cell? ⟨w.heap.size, 0, none⟩ = some (.slice p g.length c) ∧ w'.cell? ⟨b, o + k, none⟩ = some (.int .i64 X))
            (first | go_keep | exact ⟨hb4'.at' hbx, hb4'.at' hc⟩)
            (first | (go_at_call 59; refine (l1There_any _ g X _ (hGr.out.below (below_dN (Below.refl _ _) 1)) hgl).mono ?_; rintro e w4 ⟨he4, hb4⟩; rw [hd] at he4; subst he4; have hb4' : Below wr.heap.size wr w4 := (below_dN (Below.refl _ _) 1).trans hb4) | (go_at_call 66; refine (l1Has_any _ _ X _ (hpre.out.below hb4')).mono ?_; rintro e w5 ⟨he5, rfl⟩; rw [hd2] at he5; subst he5))
          all_goals go_wp2
          all_goals go_meet
          all_goals exact ⟨rfl, hb4'⟩
        case rest =>
          obtain ⟨rfl, hbc⟩ := hcut
          go_wp2
          go_roundw
          case rel =>
            have hbel' := HBel.out
            refine ⟨k + 1, by omega, by go_num, ?_, ?_, hbel'.trans (hbc.mono hbel'.size)⟩
            · rw [hx.out]
              intro x hxm
              rcases List.mem_append.1 hxm with h | h
              · exact Hin.out x h
              · simp only [List.mem_singleton] at h; subst h; exact HX1.out
            · rw [hx.out]
              exact nodup_snoc.2 ⟨Hnd.out, HX2.out⟩
          case measure => simp [intOf]; omega
    · obtain rfl : k = l.length := by omega
      go_wp2
      go_ret
      have h1 := Hin.out
      have h2 := Hnd.out
      rw [List.take_length] at h1 h2
      exact ⟨ret_bool (true_dec ⟨Hlen.out, h1, h2⟩), HBw.out⟩


end Go.Proofs.YtfokiijcpkhllaaDoor
