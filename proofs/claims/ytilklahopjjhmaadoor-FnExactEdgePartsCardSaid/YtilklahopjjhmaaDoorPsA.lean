/- Walk: the reference's parts. -/
import Derived.Test.YtilklahopjjhmaaDoorReA
import Derived.Test.YtilklahopjjhmaaDoorResults
import Derived.Test.YtilklahopjjhmaaDoorLink
import Derived.Deep.RegionHeld3
import Derived.Deep.DeepCutAuto
namespace Go.Proofs.YtilklahopjjhmaaDoor
open Go.RowKit

theorem rising_sub_len {L D : List Nat} (hL : L.Pairwise (· < ·)) (hD : D.Pairwise (· < ·)) (h : ∀ x ∈ D, x ∈ L) : D.length ≤ L.length := by
  have e : D = L.filter (fun x => decide (x ∈ D)) := rising_ext _ _ hD (List.Pairwise.filter _ hL) fun x => by
    rw [List.mem_filter]
    exact ⟨fun hx => ⟨h x hx, by simpa using hx⟩, fun hx => by simpa using hx.2⟩
  rw [e]
  exact List.length_filter_le _ _
theorem row_parts {ps : List (List Nat)} {j : Nat} (h : j < ps.length) : row (ps.map natInts) j = natInts ps[j] := by simp [row, h]
theorem SG.snocP {w w' : World} {base : Nat} {u u' rv : Value} {ps : List (List Nat)} {p : List Nat} {vals : List Value} (hl : vals.length = ps.length) (ho : w.ownsRow base 27 1 u ps.length vals) (hr : ∀ j, j < ps.length → Nums w 2 .i64 (vals.getD j undef) (row (ps.map natInts) j))
    (ho' : w'.ownsRow base 27 1 u' (ps.length + 1) (vals ++ [rv])) (hg : w.grownBy w' u.ownBlock) (hn : Nums w 2 .i64 rv (natInts p)) : SG w' base (.agg #[u']) ((ps ++ [p]).map natInts) := by
  refine ⟨u', vals ++ [rv], rfl, by simp [hl], by rw [List.length_map, List.length_append]; exact ho', fun j hj => ?_⟩
  rw [List.length_map, List.length_append] at hj
  by_cases h : j < ps.length
  · rw [getD_append_left _ _ _ _ (by omega)]
    have e2 : row ((ps ++ [p]).map natInts) j = row (ps.map natInts) j := by rw [row_parts (by rw [List.length_append]; omega), row_parts h]; simp [h]
    rw [e2]
    exact (hr j h).other ho hg (by decide)
  · have hj' : j = ps.length := by simp at hj; omega
    subst hj'
    rw [← hl, getD_append_last, hl]
    have e2 : row ((ps ++ [p]).map natInts) ps.length = natInts p := by rw [row_parts (by rw [List.length_append]; simp)]; simp
    rw [e2]
    exact hn.other ho hg (by decide)

theorem sg_shape {w : World} {base : Nat} {u : Value} {g : List (List Int)} (h : SG w base (.agg #[u]) g) : ∃ p c, u = .slice p g.length c := by
  obtain ⟨u', vals, e, _, h3, _⟩ := h
  cases e
  exact owns_shapeA h3
theorem sg_base {w : World} {base base' : Nat} {v : Value} {g : List (List Int)} (h : SG w base v g) (hb : base' ≤ base) : SG w base' v g := by
  obtain ⟨u', vals, e, h2, h3, h4⟩ := h
  exact ⟨u', vals, e, h2, ownsRow_base h3 hb, h4⟩
structure PaW (W0 wr : World) (B : Nat) (gv : Value) (E : Nat → Nat → Bool) (L : List Nat) (o d : Value) (ps : List (List Nat)) (D : List Nat) (k : Nat) : Prop where
  pa : PaI E L ps D k
  out : SG wr B (.agg #[o]) (ps.map natInts)
  dn : Nums wr 2 .i64 d (natInts D)
  bel : Below W0.heap.size W0 wr
  box : Box wr W0.heap.size 30 gv
  hB : W0.heap.size < B
  hB2 : B ≤ wr.heap.size
theorem PaW.start' (w : World) (gv : Value) (E : Nat → Nat → Bool) (L : List Nat) :
    PaW w (((w.alloc (.cells #[gv] 30)).alloc (.cells #[] 27)).alloc (.cells #[] 2)) (w.heap.size + 1) gv E L (.slice (some ⟨w.heap.size + 1, 0, none⟩) 0 0) (.slice (some ⟨w.heap.size + 1 + 1, 0, none⟩) 0 0) [] [] 0 := by
  have s1 : (w.alloc (.cells #[gv] 30)).heap.size = w.heap.size + 1 := by show (w.heap.push _).size = _; simp
  have s2 : ((w.alloc (.cells #[gv] 30)).alloc (.cells #[] 27)).heap.size = w.heap.size + 1 + 1 := by show (Array.push _ _).size = _; rw [Array.size_push, s1]
  refine ⟨.start' E L, ⟨_, [], rfl, rfl, ?_, fun j hj => by simp at hj⟩, ?_, ?_, ?_, by omega, ?_⟩
  · exact ownsRow_below (ownsRow_empty' w _ _ _ _ (Nat.le_refl _)) (below_alloc _ _)
  · have := ownsRow_empty ((w.alloc (.cells #[gv] 30)).alloc (.cells #[] 27)) 2 1
    rw [s2] at this
    exact Nums.of_owns (xs := []) this rfl (by decide)
  · exact ((below_alloc w _).alloc (below_alloc w _).size _).alloc (by omega) _
  · exact ((Box.new w gv 30).alloc _).alloc _
  · have := (below_alloc ((w.alloc (.cells #[gv] 30)).alloc (.cells #[] 27)) (.cells #[] 2)).size
    omega
theorem PaW.skip {W0 wr : World} {B : Nat} {E : Nat → Nat → Bool} {L : List Nat} {gv o d : Value} {ps : List (List Nat)} {D : List Nat} {k : Nat} (h : PaW W0 wr B gv E L o d ps D k) (hi : k < L.length) (hd : L[k] ∈ D) : PaW W0 wr B gv E L o d ps D (k + 1) :=
  ⟨h.pa.skip hi hd, h.out, h.dn, h.bel, h.box, h.hB, h.hB2⟩
/-- While a part's vertices are written down. -/
structure PaV (W0 wr : World) (B : Nat) (gv o d pv : Value) (ps : List (List Nat)) (D P : List Nat) (t : Nat) (D2 : List Nat) : Prop where
  ris : D2.Pairwise (· < ·)
  mem : ∀ x, x ∈ D2 ↔ x ∈ D ∨ x ∈ P.take t
  out : SG wr B (.agg #[o]) (ps.map natInts)
  dn : Nums wr 2 .i64 d (natInts D2)
  prt : Nums wr 2 .i64 pv (natInts P)
  bel : Below W0.heap.size W0 wr
  box : Box wr W0.heap.size 30 gv
  hB : W0.heap.size < B
  hB2 : B ≤ wr.heap.size
theorem PaV.start' {W0 wr w4 : World} {B : Nat} {E : Nat → Nat → Bool} {L : List Nat} {gv o d pv : Value} {ps : List (List Nat)} {D P : List Nat} {k : Nat} (h : PaW W0 wr B gv E L o d ps D k) (hb : Below wr.heap.size wr w4) (hp : Nums w4 2 .i64 pv (natInts P)) : PaV W0 w4 B gv o d pv ps D P 0 D :=
  ⟨h.pa.ris, fun x => by simp, h.out.below hb, h.dn.below hb, hp, h.bel.trans (hb.mono h.bel.size), h.box.keep hb, h.hB, Nat.le_trans h.hB2 hb.size⟩
theorem PaV.next {W0 wr w4 : World} {B : Nat} {gv o d d' pv : Value} {ps : List (List Nat)} {D P D2 D3 : List Nat} {t : Nat} (h : PaV W0 wr B gv o d pv ps D P t D2) (ht : t < P.length) (hb : Below wr.heap.size wr w4) (hd : Nums w4 2 .i64 d' (natInts D3)) (hr : D3.Pairwise (· < ·)) (hm : ∀ x, x ∈ D3 ↔ x ∈ D2 ∨ x = P[t]) : PaV W0 w4 B gv o d' pv ps D P (t + 1) D3 :=
  ⟨hr, fun x => by
    rw [hm, h.mem, take_snoc _ t ht, List.mem_append, List.mem_singleton, or_assoc], h.out.below hb, hd, h.prt.below hb, h.bel.trans (hb.mono h.bel.size), h.box.keep hb, h.hB, Nat.le_trans h.hB2 hb.size⟩
theorem PaV.sub {W0 wr : World} {B : Nat} {E : Nat → Nat → Bool} {L : List Nat} {gv o d pv : Value} {ps : List (List Nat)} {D D2 : List Nat} {t u k : Nat} (h : PaV W0 wr B gv o d pv ps D (partL E L u) t D2) (hp : PaI E L ps D k) (hL : L.Pairwise (· < ·)) : D2.length ≤ L.length :=
  rising_sub_len hL h.ris fun x hx => ((h.mem x).1 hx).elim (hp.sub x) fun q => (mem_partL.1 (List.mem_of_mem_take q)).1

theorem PaW.take {W0 wr wv w7 : World} {B b7 c7 : Nat} {E : Nat → Nat → Bool} (hE : ∀ r j, E r j = true → E j r = true) {L : List Nat} (hL : L.Pairwise (· < ·)) {gv o d dv pv : Value} {ps : List (List Nat)} {D D2 : List Nat} {k y : Nat} {vals : List Value} (h : PaW W0 wr B gv E L o d ps D k)
    (hk : k < L.length) (hy : L[k]'hk = y) (hd : y ∉ D) (hv : PaV W0 wv B gv o dv pv ps D (partL E L y) (partL E L y).length D2)
    (hv1 : vals.length = ps.length) (hv2 : wv.ownsRow B 27 1 o ps.length vals) (hv3 : ∀ j, j < ps.length → Nums wv 2 .i64 (vals.getD j undef) (row (ps.map natInts) j))
    (ho : w7.ownsRow B 27 1 (.slice (some ⟨b7, 0, none⟩) (ps.length + 1) c7) (ps.length + 1) (vals ++ [pv])) (hg : wv.grownBy w7 o.ownBlock) :
    PaW W0 w7 B gv E L (.slice (some ⟨b7, 0, none⟩) (ps.length + 1) c7) dv (ps ++ [partL E L y]) D2 (k + 1) := by
  subst hy
  have hsz := hg.size
  have h1 := hv.hB
  have h2 := hv.hB2
  refine ⟨h.pa.take hE hL hk hd hv.ris (fun x => by rw [hv.mem, List.take_length]), SG.snocP hv1 hv2 hv3 ho hg hv.prt, hv.dn.other hv2 hg (by decide), below_grown hv.bel hv2 hg (by omega) (by omega), hv.box.grown hg fun e => ?_, hv.hB, by omega⟩
  have := (hv2.lt _ e.symm).1
  omega

set_option maxRecDepth 100000 in
set_option maxHeartbeats 4000000 in
theorem l16Parts_any (v lv : Value) (n : Nat) (E : Nat → Nat → Bool) (hE : ∀ r j, E r j = true → E j r = true) (L : List Nat) (hL16 : L.length ≤ 16) (hL : L.Pairwise (· < ·)) (hLn : ∀ x ∈ L, x < n) (w : World) (hg : Gr w v (matG n E)) (hl : Nums w 2 .i64 lv (natInts L)) :
    Calls Tryd.prog 35 #[v, lv, .bool false] w fun e w' => ∃ (r : Value) (ps : List (List Nat)), e = .returned r ∧ Parts E L ps ∧ SG w' w.heap.size (.agg #[r]) (ps.map natInts) ∧ ps.length ≤ 16 ∧ (∀ l ∈ ps, l.Pairwise (· < ·) ∧ ∀ x ∈ l, x ∈ L) ∧ Below w.heap.size w w' := by
  obtain ⟨lp, lc, rfl, _⟩ := id hl.shape
  have hg0 := hg
  obtain ⟨g0, rfl, hr⟩ := hg
  obtain ⟨p, c, rfl, _⟩ := hr.shape
  have HG := Lib.hid hg0
  clear hr hg0
  have HN := Lib.hid hl
  have HLN := Lib.hid hLn
  clear hl hLn
  go_enter Tryd.func35, Tryd.ntmps35
  go_wp2
  go_loopw [7, 8, 9] (fun o d i wr => ∃ ps D k, k ≤ L.length ∧ i = .int .i64 k ∧ PaW w wr (w.heap.size + 1) (.slice p (matG n E).length c) E L o d ps D k) (fun _ _ i _ => L.length - (intOf i).toNat)
  case atStart =>
    exact ⟨[], [], 0, Nat.zero_le _, rfl, PaW.start' w _ E L⟩
  case round =>
    obtain ⟨ps, D, k, hk, rfl, hI⟩ := hrel
    obtain ⟨op, oc, rfl⟩ := sg_shape hI.out
    obtain ⟨dp, dc, rfl, _⟩ := id hI.dn.shape
    simp only [natInts_length, List.length_map] at *
    have hbel := hI.bel
    have hsz := hbel.size
    have HN1 := HN.out.below hbel
    have HI := Lib.hid hI
    by_cases hlt : k < L.length
    · obtain ⟨lb, lo, rfl, hlc⟩ := HN1.get (k := k) (by rw [natInts_length]; exact hlt)
      rw [natInts_atQ hlt] at hlc
      have hmemL : L[k]'hlt ∈ L := List.getElem_mem hlt
      have HLT := Lib.hid hlt
      have HN2 := Lib.hid HN1
      have HB := Lib.hid hbel
      generalize hy : L[k]'hlt = y at hlc hmemL
      have HY := Lib.hid hy
      have HML := Lib.hid hmemL
      clear hy hI HN1 hmemL hbel
      by_cases hin : y ∈ D
      · have hd : dec ((y : Int) ∈ natInts D) = true := dec_true (mem_natInts.2 ⟨y, hin, rfl⟩)
        have HIN := Lib.hid hin
        clear hin
        go_wp2_with (go_at_call 44; refine (l1Has_any _ (natInts D) _ _ HI.out.dn).mono ?_; rintro e w4 ⟨he4, rfl⟩; rw [hd] at he4; subst he4)
        go_roundw
        case rel => exact ⟨ps, D, k + 1, by omega, by go_num, HI.out.skip hlt (by rw [HY.out]; exact HIN.out)⟩
        case measure => simp [intOf]; omega
      · have hd : dec ((y : Int) ∈ natInts D) = false := dec_false (new_nat hin)
        have HIN := Lib.hid hin
        clear hin
        have hxc := HI.out.box.cell
        go_upto_region 7 with (go_at_call 44; refine (l1Has_any _ (natInts D) _ _ HI.out.dn).mono ?_; rintro e w4 ⟨he4, rfl⟩; rw [hd] at he4; subst he4)
        go_cut [10] (fun s wx => Nums wx 2 .i64 s (natInts (partL E L y)) ∧ Below wr.heap.size wr wx)
        case first =>
          go_region_held3 (fun w' => w'.cell? ⟨w.heap.size, 0, none⟩ = some (.slice p (matG n E).length c) ∧ w'.cell? ⟨lb, lo + k, none⟩ = some (.int .i64 y))
            (first | go_keep | exact ⟨hxc, hlc⟩ | exact ⟨BWA.at' hxc, BWA.at' hlc⟩)
            (first | (go_at_call 56; refine (l16Reach_any _ _ n E L y _ rfl hL16 hL HLN.out HML.out _ (HG.out.below (HB.out.trans (below_dN (Below.refl _ _) 1))) (HN2.out.below (below_dN (Below.refl _ _) 1))).mono ?_; rintro e w5 ⟨pv, rfl, hp5, hb5⟩; have HP5 := Lib.hid hp5; have BWA : Below wr.heap.size wr w5 := (below_dN (Below.refl _ _) 1).trans hb5; clear hp5 hb5))
          all_goals go_wp2
          all_goals go_meet
          all_goals exact ⟨HP5.out, BWA⟩
        case rest =>
          obtain ⟨hp5, hb5⟩ := hcut
          have START := Lib.hid (PaV.start' HI.out hb5 hp5)
          obtain ⟨pp, pc, rfl, _⟩ := id hp5.shape
          clear hp5 hb5 hxc hlc
          simp only [natInts_length] at *
          go_wp2
          go_loopw [8, 11] (fun d i wr => ∃ D2 t, t ≤ (partL E L y).length ∧ i = .int .i64 t ∧ PaV w wr (w.heap.size + 1) (.slice p (matG n E).length c) (.slice op ps.length oc) d (.slice pp (partL E L y).length pc) ps D (partL E L y) t D2) (fun _ i _ => (partL E L y).length - (intOf i).toNat)
          case atStart => exact ⟨D, 0, Nat.zero_le _, rfl, START.out⟩
          case round =>
            clear START
            obtain ⟨D2, t, ht, rfl, hJ⟩ := hrel
            obtain ⟨dp2, dc2, rfl, _⟩ := id hJ.dn.shape
            have hsub := hJ.sub HI.out.pa hL
            have hprt := hJ.prt
            have hbel := hJ.bel
            have hB2 := hJ.hB2
            have HJ := Lib.hid hJ
            clear hJ
            simp only [natInts_length] at *
            by_cases htl : t < (partL E L y).length
            · obtain ⟨qb, qo, rfl, hqc⟩ := hprt.get (k := t) (by rw [natInts_length]; exact htl)
              rw [natInts_atQ htl] at hqc
              have HTL := Lib.hid htl
              obtain ⟨D3, h31, h32, h33⟩ := into_any HJ.out.ris ((partL E L y)[t]'htl)
              have H31 := Lib.hid h31
              have H32 := Lib.hid h32
              have H33 := Lib.hid h33
              clear h31 h32 h33 hprt
              generalize hz : (partL E L y)[t]'htl = z at hqc H31 H33
              have HZ := Lib.hid hz
              clear hz
              go_wp2_with (go_at_call 58; refine (l1Into_any _ (natInts D2) _ (by rw [natInts_length]; omega) _ HJ.out.dn).mono ?_; rintro e w6 ⟨u6, rfl, hn6, hb6⟩)
              go_roundw
              case rel => exact ⟨D3, t + 1, by omega, by go_num, HJ.out.next HTL.out hb6 (by rw [← H31.out]; exact hn6) H32.out (by rw [HZ.out]; exact H33.out)⟩
              case measure => simp [intOf]; omega
            · obtain rfl : t = (partL E L y).length := by omega
              obtain ⟨_, vals, e1, hv1, hv2, hv3⟩ := HJ.out.out
              cases e1
              rw [List.length_map] at hv1 hv2 hv3
              have HV1 := Lib.hid hv1
              have HV3 := Lib.hid hv3
              have hpl := HI.out.pa.len
              have hsz2 := hbel.size
              clear hv1 hv3 hprt
              go_wp2_with (at_builtin; refine wpList_app1s ty_rows64 rfl rfl rfl hv2 rfl rfl (by omega) hB2 ?_; intro b7 c8 w7 hown7 hg7 _)
              go_roundw
              case rel => exact ⟨_, D2, k + 1, by omega, by go_num, HI.out.take hE hL HLT.out HY.out HIN.out HJ.out HV1.out hv2 HV3.out hown7 hg7⟩
              case measure => simp [intOf]; omega
    · obtain rfl : k = L.length := by omega
      go_wp2
      go_ret
      exact ⟨_, ps, rfl, HI.out.pa.done, sg_base HI.out.out (by omega), Nat.le_trans HI.out.pa.len hL16, HI.out.pa.all, hbel⟩

end Go.Proofs.YtilklahopjjhmaaDoor
