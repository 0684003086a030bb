/- Walk: the reference's Contracted, the edge's ends in any order (XMnB's walk). -/
import Derived.Test.YtiooindlpinjhaaDoorWlQ37
import Derived.Test.YtiooindlpinjhaaDoorWlQ29
import Derived.Test.YtiooindlpinjhaaDoorWlQ8
import Derived.Test.YtiooindlpinjhaaDoorWlQ9
import Derived.Test.YtiooindlpinjhaaDoorWlQ18
namespace Go.Proofs.YtiooindlpinjhaaDoor
open Go.RowKit

set_option maxRecDepth 100000 in
set_option maxHeartbeats 4000000 in
theorem specContracted2_yes (v : Value) (g : List (List Int)) (y z : Int) (a b : Nat) (hyz : (y = a ∧ z = b) ∨ (y = b ∧ z = a)) (hok : GOk g) (hab : a < b) (hb : b < g.length) (hE : ofG g a b = true) (w : World) (hg : Gr w v g) :
    Calls Tryd.prog 38 #[v, .int .i64 y, .int .i64 z] w fun e w' => ∃ u, e = .returned (.tuple #[u, .bool true]) ∧ SG w' w.heap.size u (indL (matG g.length (conE (ofG g) a b)) (natInts (restN g.length b))) ∧ Below w.heap.size w w' := by
  have hg0 := hg
  obtain ⟨u, rfl, hr⟩ := hg
  obtain ⟨gp, gc, rfl, _⟩ := hr.shape
  obtain ⟨W0, hW0, hbA, SZ0, B0, B1⟩ := two_boxesM w (.slice gp g.length gc) (.slice none 0 0) 28 28
  have HBA := Lib.hid hbA
  have HG := Lib.hid (hg0.below hbA)
  have HX0 := Lib.hid B0
  have HX1 := Lib.hid B1
  have HSZ := Lib.hid SZ0
  have h16 := hok.le
  have ha : a < g.length := by omega
  have HOK := Lib.hid hok
  have HE := Lib.hid hE
  have hmin : Hid (min y z = (a : Int)) := Lib.hid (by omega)
  have hmax : Hid (max y z = (b : Int)) := Lib.hid (by omega)
  have EDG : Hid (∀ wz, Gr wz (.agg #[.slice gp g.length gc]) g → Calls Tryd.prog 35 #[.agg #[.slice gp g.length gc], .int .i64 y, .int .i64 z] wz fun e w' => e = .returned (.bool true) ∧ Below wz.heap.size wz w') := Lib.hid fun wz h => by
    rcases hyz with ⟨e1, e2⟩ | ⟨e1, e2⟩
    · exact specEdgeIn_yes _ g _ _ a b e1 e2 HOK.out ha hb HE.out wz h
    · exact specEdgeIn_yes _ g _ _ b a e1 e2 HOK.out hb ha (ofG_sym HOK.out _ _ HE.out) wz h
  clear hyz
  have hc : GOk (matG g.length (conE (ofG g) a b)) := gok_matG hok.pos h16 (conE_sym (ofG_sym hok) a b) (conE_irr (ofG_irr hok) a b)
  have HLT : Hid (∀ x ∈ natInts (restN g.length b), 0 ≤ x ∧ x < (matG g.length (conE (ofG g) a b)).length) := Lib.hid (fun x hx => by
    obtain ⟨i, hi, rfl⟩ := mem_natInts.1 hx
    have := (mem_restN.1 hi).1
    rw [matG_length]
    omega)
  have HSY := Lib.hid (indE_sym hc HLT.out)
  have HRE : Hid ((List.range g.length).filter (fun x => x != b) = restN g.length b) := Lib.hid rfl
  have HRL : Hid ((restN g.length b).length ≤ 16) := Lib.hid (Nat.le_trans (List.length_filter_le _ _) (by rw [List.length_range]; exact h16))
  obtain ⟨hrn1, _, hrn3⟩ := setIn_nats (hok.sets b hb).1
  obtain ⟨rn, hrn⟩ : ∃ rn, rn = (row g b).map Int.toNat := ⟨_, rfl⟩
  rw [← hrn] at hrn1 hrn3
  have HRN := Lib.hid hrn1.symm
  have HRN3 := Lib.hid hrn3
  have hrl : rn.length ≤ 16 := by
    have := setIn_length (by omega) (hok.sets b hb).1
    rw [hrn, List.length_map]
    omega
  have HALL := Lib.hid (conI_all (g := g) (a := a) (b := b) (rn := rn) hrn1.symm)
  clear hr hg0 hok hbA B0 B1 SZ0 hE hc hrn1 hrn3 hrn
  go_enter Tryd.func38, Tryd.ntmps38
  go_upto_region 1 with fail
  rw [← hW0]
  clear hW0
  have c0 := HX0.out.cell
  go_upto_region 5 with (first
    | (go_at_call 35; refine (EDG.out _ HG.out).mono ?_; rintro e w2 ⟨rfl, hb2⟩; have c2 := hb2.at' c0)
    | (go_at_call 104; refine (minMn_any _ _ _).mono ?_; rintro e w3 ⟨he, hw⟩; rw [hmin.out] at he; subst he; subst hw)
    | (go_at_call 105; refine (maxMn_any _ _ _).mono ?_; rintro e w3 ⟨he, hw⟩; rw [hmax.out] at he; subst he; subst hw))
  have HB2 := Lib.hid hb2
  have HG2 := Lib.hid (HG.out.below hb2)
  clear hb2 c0
  go_upto_region 6 with (go_at_call 102; refine (l1CopyGraph_any _ g (by omega) (fun j => by have := gok_rowsMn HOK.out j; omega) _ HG2.out).mono ?_; rintro e w3 ⟨u3, rfl, hs3, hb3⟩; obtain ⟨p, c, rfl⟩ := hs3.shape)
  have START : Hid (L2I w2 (w3.alloc (.cells #[.slice p g.length c] 28)) w3.heap.size p c g.length (matG g.length (conI (ofG g) a []))) := Lib.hid
    ⟨by rw [conI_nil, matG_ofG HOK.out]; exact hs3.below (below_alloc _ _), hb3.alloc hb3.size _, Box.new _ _ _, hs3.lt, hb3.size⟩
  have s2 := HB2.out.size
  clear hs3 hb3 c2
  go_wp2_with fail
  go_loopw [11] (fun iv wr => ∃ k : Nat, k ≤ rn.length ∧ iv = .int .i64 k ∧ L2I w2 wr w3.heap.size p c g.length (matG g.length (conI (ofG g) a ((rn.take k).filter fun x => x != a)))) (fun iv _ => rn.length - (intOf iv).toNat)
  case atStart => exact ⟨0, Nat.zero_le _, rfl, START.out⟩
  case round =>
    clear START
    obtain ⟨k, hk, rfl, hI⟩ := hrel
    have HI := Lib.hid hI
    have c0 := (HX0.out.keep (HB2.out.trans (hI.bel.mono HB2.out.size))).cell
    obtain ⟨_, eG, hRg⟩ := id (HG2.out.below hI.bel)
    cases eG
    obtain ⟨rb, ro, rp, rc, hgp, hcr, hnr⟩ := hRg.get hb
    subst hgp
    replace hcr : wr.cell? _ = some (.slice rp (row g b).length rc) := hcr
    replace hnr : Nums wr _ _ (.slice rp (row g b).length rc) (row g b) := hnr
    rw [HRN.out, natInts_length] at hcr hnr
    clear hRg hI
    by_cases hlt : k < rn.length
    · obtain ⟨nb, no, hnp, hcn⟩ := Nums.get (k := k) (by rw [← natInts_length rn] at hnr; exact hnr) (by rw [natInts_length]; exact hlt)
      subst hnp
      have e1 : (natInts rn)[k]'(by rw [natInts_length]; exact hlt) = ((rn[k] : Nat) : Int) := by simp [natInts]
      rw [e1] at hcn
      have hyn := HRN3.out _ (List.getElem_mem hlt)
      have hT : rn.take (k + 1) = rn.take k ++ [rn[k]] := take_snoc' rn k hlt
      generalize rn[k] = y at hcn hT hyn
      have HTT := Lib.hid hT
      have e2 : (b : Int) < (g.length : Int) := by omega
      have e3 : (k : Int) < (rn.length : Int) := by omega
      clear e1 hT hnr
      by_cases hya : y = a
      · have hne : ((y : Int) != (a : Int)) = false := by rw [hya]; simp
        have HK : Hid ((rn.take (k + 1)).filter (fun x => x != a) = (rn.take k).filter (fun x => x != a)) := Lib.hid (by rw [HTT.out, List.filter_append]; simp [hya])
        clear hya
        go_wp2_with fail
        go_roundw
        case rel => exact ⟨k + 1, by omega, by go_num, by rw [HK.out]; exact HI.out⟩
        case measure => simp [intOf]; omega
      · have hne : ((y : Int) != (a : Int)) = true := bne_iff_ne.2 (by omega)
        have HK : Hid ((rn.take (k + 1)).filter (fun x => x != a) = (rn.take k).filter (fun x => x != a) ++ [y]) := Lib.hid (by rw [HTT.out, List.filter_append]; simp [hya])
        obtain ⟨T, hT⟩ : ∃ T, T = (rn.take k).filter (fun x => x != a) := ⟨_, rfl⟩
        rw [← hT] at HI HK
        have hlk : ∀ wz, Below wr.heap.size wr wz → Calls Tryd.prog 106 #[.agg #[.slice p g.length c], .int .i64 (a : Int), .int .i64 (y : Int)] wz fun e w' => e = .returned (.agg #[.slice p g.length c]) ∧ SG w' w2.heap.size (.agg #[.slice p g.length c]) (matG g.length (conI (ofG g) a (T ++ [y]))) ∧ wz.grownBy w' (Value.slice p g.length c).ownBlock := by
          intro wz hbz
          have hml := matG_length g.length (conI (ofG g) a T)
          have := l1Link_any p c (matG g.length (conI (ofG g) a T)) (a : Int) (y : Int) a y w2.heap.size rfl rfl (by omega) (by omega) (fun j _ => Nat.le_trans (matG_row_le j) (by omega)) wz (by rw [hml]; exact (HI.out.next hbz).sg)
          rw [hml, conI_link ha hyn (Ne.symm hya)] at this
          exact this
        have Hlk := Lib.hid hlk
        have cb := HI.out.box.cell
        have cf := HI.out.box.free
        clear hlk hT hya
        go_upto_region 10 with fail
        go_region_law (first | (go_simp; go_at_call 106; refine (Hlk.out _ (below_dN (Below.refl _ _) 1)).mono ?_; rintro e w6 ⟨rfl, hs6, hg6⟩; have HIN := Lib.hid (HI.out.next (below_dN (Below.refl _ _) 1)); have hbx := HIN.out.box.grown hg6 (fun e => by have := (HI.out.own _ e.symm).2; omega); have hc6 := hbx.cell; have hf6 := hbx.free; have HLN := Lib.hid (HIN.out.link hs6 hg6)))
        all_goals go_wp2
        all_goals go_roundw
        all_goals first
          | exact ⟨k + 1, by omega, by go_num, by rw [HK.out]; exact HLN.out⟩
          | exact ⟨k + 1, by omega, by go_num, by rw [HK.out]; exact HLN.out.next (below_dN (Below.refl _ _) _)⟩
          | (simp [intOf]; omega)
    · obtain rfl : k = rn.length := by omega
      rw [List.take_length, HALL.out] at HI
      have cb := HI.out.box.cell
      have HBW := Lib.hid (HB2.out.trans (HI.out.bel.mono HB2.out.size))
      have HGr := Lib.hid (HG2.out.below HI.out.bel)
      obtain ⟨nc, nf, nl, nB⟩ := HX1.out.keep HBW.out
      have szw := HBW.out.size
      have hne : w.heap.size ≠ w3.heap.size := by have := HI.out.b5; have := HSZ.out; omega
      have hne2 : w.heap.size + 1 ≠ w3.heap.size := by have := HI.out.b5; have := HSZ.out; omega
      have hne3 : w.heap.size + 1 ≠ w.heap.size := by omega
      have hne4 : w3.heap.size ≠ w.heap.size + 1 := by omega
      clear hnr
      go_wp2_with fail
      clear hcr
      go_region_held3 (fun W => W.cell? ⟨w3.heap.size, 0, none⟩ = some (.slice p g.length c) ∧ W.cell? ⟨w.heap.size, 0, none⟩ = some (.slice (some ⟨rb, ro, none⟩) g.length gc))
        (first | exact ⟨cb, c0⟩ | go_keep | exact ⟨BWD.at' cb, BWD.at' c0⟩ | exact ⟨BWC.at' cb, BWC.at' c0⟩ | exact ⟨BWB.at' cb, BWB.at' c0⟩ | exact ⟨BWA.at' cb, BWA.at' c0⟩ | exact ⟨(World.cell?_setCell_far _ _ _ _ hne2).trans (BWD.at' cb), (World.cell?_setCell_far _ _ _ _ hne3).trans (BWD.at' c0)⟩)
        (first
          | (go_at_call 75; refine (l1Size_any _ g _ (HGr.out.below (below_dN (Below.refl _ _) 1))).mono ?_; rintro e wa ⟨rfl, hbq⟩; have BWA : Below wr.heap.size wr wa := (below_dN (Below.refl _ _) 1).trans hbq; clear hbq)
          | (go_at_call 108; refine (l1All_any _ g.length rfl (by omega) _).mono ?_; rintro e wb ⟨av, rfl, ho, hbq⟩; have HNA : Hid (Nums wb 2 .i64 av (natInts (List.range g.length))) := Lib.hid (Nums.of_owns ho (by rw [natInts_length, List.length_range]) (by omega)); have BWB : Below wr.heap.size wr wb := BWA.trans (hbq.mono BWA.size); clear hbq ho)
          | (go_at_call 103; refine (l2Without_any _ (List.range g.length) _ b rfl (by rw [List.length_range]; omega) _ HNA.out).mono ?_; rintro e wc ⟨lv, rfl, ho, hbq⟩; rw [HRE.out] at ho; have HNL : Hid (Nums wc 2 .i64 lv (natInts (restN g.length b))) := Lib.hid (Nums.of_owns ho (by rw [natInts_length]) (by have := HRL.out; omega)); have BWC : Below wr.heap.size wr wc := BWB.trans (hbq.mono BWB.size); clear hbq ho)
          | (go_at_call 107; refine (l2Of_any _ _ (matG g.length (conE (ofG g) a b)) (natInts (restN g.length b)) HLT.out (by rw [natInts_length]; have := HRL.out; omega) HSY.out _ ((HI.out.next BWC).sg.gr (by rw [matG_length]; omega)) HNL.out).mono ?_; rintro e wd ⟨u, rfl, hs, hbq⟩; obtain ⟨up, uc, rfl⟩ := hs.shape; have HSD := Lib.hid hs; have BWD : Below wr.heap.size wr wd := BWC.trans (hbq.mono BWC.size); have nc4 := BWD.at' nc; have nB4 := (Box.keep ⟨nc, nf, nl, nB⟩ BWD); have nf4 := nB4.free; clear hbq hs))
      all_goals go_wp2
      have e0 := HBA.out.size
      refine bodyPost_ret (v := .tuple #[.agg #[.slice up (indL (matG g.length (conE (ofG g) a b)) (natInts (restN g.length b))).length uc], .bool true]) (by simp [results, Tryd.results38, go_sem, nc4]) rfl ⟨_, rfl, (HSD.out.setBox nB4 _).base (by have := BWC.size; omega), ?_⟩
      exact ((HBA.out.trans (HBW.out.mono e0)).trans (BWD.mono (by omega))).setCell (by show w.heap.size ≤ w.heap.size + 1; omega) _


end Go.Proofs.YtiooindlpinjhaaDoor

/- Plain: the search of a map that fits; an order and its inverse. -/
namespace Go.Proofs.YtiooindlpinjhaaDoor

/-! ### The search -/
/-- v fits behind what there is. -/
def okV (E F : Nat → Nat → Bool) (pre : List Nat) (v : Nat) : Prop := v ∉ pre ∧ ∀ k (h : k < pre.length), E v pre[k] = F pre.length k
/-- The first completion by r more. -/
noncomputable def fitF (n : Nat) (E F : Nat → Nat → Bool) : Nat → List Nat → Option (List Nat)
  | 0, pre => some pre
  | r + 1, pre => (List.range n).findSome? fun v => if dec (okV E F pre v) = true then fitF n E F r (pre ++ [v]) else none
/-- A map that fits. -/
def FitAll (E F : Nat → Nat → Bool) (l : List Nat) : Prop := ∀ i (h : i < l.length), okV E F (l.take i) l[i]
theorem fitF_some {n : Nat} {E F : Nat → Nat → Bool} : ∀ (r : Nat) (pre l : List Nat), fitF n E F r pre = some l → ∃ u, l = pre ++ u ∧ u.length = r ∧ (∀ x ∈ u, x < n) ∧ ∀ i (h : i < u.length), okV E F (pre ++ u.take i) u[i]
  | 0, pre, l, h => by
    simp only [fitF, Option.some.injEq] at h
    exact ⟨[], by rw [← h, List.append_nil], rfl, by simp, fun i h => by simp at h⟩
  | r + 1, pre, l, h => by
    rw [fitF, List.findSome?_eq_some_iff] at h
    obtain ⟨l1, v, l2, h1, h2, _⟩ := h
    by_cases hv : dec (okV E F pre v) = true
    · rw [if_pos hv] at h2
      obtain ⟨u, rfl, h4, h5, h6⟩ := fitF_some r _ _ h2
      have hvn : v < n := List.mem_range.1 (by rw [h1]; simp)
      refine ⟨v :: u, by simp, by simp [h4], fun x hx => ?_, fun i hi => ?_⟩
      · rcases List.mem_cons.1 hx with rfl | hx
        · exact hvn
        · exact h5 x hx
      · cases i with
        | zero => simpa using dec_iff.1 hv
        | succ i =>
          have := h6 i (by simpa using hi)
          simpa [List.append_assoc] using this
    · rw [if_neg hv] at h2
      cases h2
theorem fitF_none {n : Nat} {E F : Nat → Nat → Bool} : ∀ (r : Nat) (pre : List Nat), fitF n E F r pre = none → ∀ u : List Nat, u.length = r → (∀ x ∈ u, x < n) → ¬ ∀ i (h : i < u.length), okV E F (pre ++ u.take i) u[i]
  | 0, pre, h, u, hu, _ => by simp [fitF] at h
  | r + 1, pre, h, u, hu, hn => by
    intro hk
    cases u with
    | nil => simp at hu
    | cons v u =>
      rw [fitF, List.findSome?_eq_none_iff] at h
      have h1 := h v (List.mem_range.2 (hn v (by simp)))
      have h0 : okV E F pre v := by
        have := hk 0 (by simp)
        simpa only [List.take_zero, List.append_nil, List.getElem_cons_zero] using this
      rw [if_pos (dec_true h0)] at h1
      refine fitF_none r _ h1 u (by simpa using hu) (fun x hx => hn x (by simp [hx])) fun i hi => ?_
      have := hk (i + 1) (by simpa using hi)
      simpa [List.append_assoc] using this
/-- The tries below v. -/
noncomputable def fitTo (n : Nat) (E F : Nat → Nat → Bool) (r : Nat) (pre : List Nat) (v : Nat) : Option (List Nat) := (List.range v).findSome? fun v => if dec (okV E F pre v) = true then fitF n E F r (pre ++ [v]) else none
theorem fitTo_zero (n : Nat) (E F : Nat → Nat → Bool) (r : Nat) (pre : List Nat) : fitTo n E F r pre 0 = none := rfl
theorem fitTo_all (n : Nat) (E F : Nat → Nat → Bool) (r : Nat) (pre : List Nat) : fitTo n E F r pre n = fitF n E F (r + 1) pre := rfl
theorem fitTo_no {n : Nat} {E F : Nat → Nat → Bool} {r : Nat} {pre : List Nat} {v : Nat} (h : fitTo n E F r pre v = none) (hv : ¬ okV E F pre v) : fitTo n E F r pre (v + 1) = none := by
  unfold fitTo at h ⊢
  rw [List.range_succ, List.findSome?_append, h]
  simp [dec_false hv]
theorem fitTo_yes {n : Nat} {E F : Nat → Nat → Bool} {r : Nat} {pre : List Nat} {v : Nat} (h : fitTo n E F r pre v = none) (hv : okV E F pre v) : fitTo n E F r pre (v + 1) = fitF n E F r (pre ++ [v]) := by
  unfold fitTo at h ⊢
  rw [List.range_succ, List.findSome?_append, h]
  simp [dec_true hv]
theorem fitTo_stop {n : Nat} {E F : Nat → Nat → Bool} {r : Nat} {pre l : List Nat} : ∀ {v u : Nat}, fitTo n E F r pre v = some l → v ≤ u → fitTo n E F r pre u = some l := by
  intro v u h hvu
  induction u with
  | zero => obtain rfl : v = 0 := by omega
            exact h
  | succ u ih =>
    by_cases e : v = u + 1
    · rw [← e]; exact h
    · have := ih (by omega)
      unfold fitTo at this ⊢
      rw [List.range_succ, List.findSome?_append, this]
      rfl

/-! ### An order and its inverse -/
theorem ofG_ind {g : List (List Int)} {o : List Nat} {r j : Nat} (hr : r < o.length) (hj : j < o.length) : ofG (indL g (natInts o)) r j = ofG g o[r] o[j] := by
  unfold indL
  rw [ofG_matG (by rw [natInts_length]; exact hr) (by rw [natInts_length]; exact hj), indE_nat hr hj]
theorem ind_back {g : List (List Int)} (hg : GOk g) {o b : List Nat} (ho : o.length = g.length) (hb : b.length = g.length) (hbn : ∀ x ∈ b, x < g.length) (hob : ∀ i (h : i < b.length), o.getD b[i] 0 = i) : indL (indL g (natInts o)) (natInts b) = g := by
  have e1 : indL (indL g (natInts o)) (natInts b) = matG g.length (ofG g) := by
    rw [show indL (indL g (natInts o)) (natInts b) = matG (natInts b).length (indE (indL g (natInts o)) (natInts b)) from rfl, natInts_length, hb]
    refine matG_congr fun r j hr hj => ?_
    have hr' : r < b.length := by omega
    have hj' : j < b.length := by omega
    have h1 := hbn _ (List.getElem_mem hr')
    have h2 := hbn _ (List.getElem_mem hj')
    rw [indE_nat hr' hj', ofG_ind (by omega) (by omega)]
    have h3 := hob r hr'
    have h4 := hob j hj'
    rw [List.getD_eq_getElem?_getD, List.getElem?_eq_getElem (by omega)] at h3 h4
    simp only [Option.getD_some] at h3 h4
    rw [h3, h4]
  rw [e1, matG_ofG hg]
/-- The order itself fits. -/
theorem fit_order {g : List (List Int)} {o : List Nat} (hnd : o.Nodup) : ∀ i (h : i < o.length), okV (ofG g) (ofG (indL g (natInts o))) ([] ++ o.take i) o[i] := by
  intro i h
  rw [List.nil_append]
  refine ⟨fun hm => ?_, fun k hk => ?_⟩
  · obtain ⟨j, hj, e⟩ := List.getElem_of_mem hm
    rw [List.length_take] at hj
    rw [List.getElem_take] at e
    exact (List.pairwise_iff_getElem.1 hnd) j i (by omega) h (by omega) e
  · have hki : k < i := by rw [List.length_take] at hk; omega
    have e : (o.take i).length = i := by rw [List.length_take]; omega
    have e2 : (o.take i)[k] = o[k]'(by omega) := List.getElem_take ..
    calc ofG g o[i] (o.take i)[k] = ofG g o[i] (o[k]'(by omega)) := by rw [e2]
      _ = ofG (indL g (natInts o)) i k := (ofG_ind h (by omega)).symm
      _ = ofG (indL g (natInts o)) (o.take i).length k := by rw [e]

end Go.Proofs.YtiooindlpinjhaaDoor

/- Plain: the least width does not grow where an edge or a vertex is cut or an edge contracted; and falls by one at most. -/
namespace Go.Proofs.YtiooindlpinjhaaDoor

theorem tw_le_val {n : Nat} {E : Nat → Nat → Bool} {s v : Nat} (hv : v ∈ freeS n s) : twS n E s ≤ valS n E s v := by
  have h1 := twS_eq n E s
  have h2 := minO_le (valS n E s v) (List.mem_map.2 ⟨v, hv, rfl⟩)
  omega
theorem tw_some {n : Nat} {E : Nat → Nat → Bool} {s : Nat} (h : freeS n s ≠ []) : ∃ v ∈ freeS n s, twS n E s = valS n E s v := by
  have h1 := twS_eq n E s
  obtain ⟨x, hx, he⟩ := minO_some (l := (freeS n s).map (valS n E s)) (fun e => h (List.map_eq_nil_iff.1 e))
  obtain ⟨v, hv, rfl⟩ := List.mem_map.1 hx
  exact ⟨v, hv, by omega⟩
theorem tw_none {n : Nat} {E : Nat → Nat → Bool} {s : Nat} (h : freeS n s = []) : twS n E s = 0 := by
  unfold twS
  rw [h]
  rfl
/-- What is done to one graph is done to another. -/
theorem tw_sim {n m d : Nat} {E F : Nat → Nat → Bool} {R : Nat → Nat → Prop}
    (h0 : ∀ s t, R s t → freeS n s = [] → twS m F t ≤ d)
    (h1 : ∀ s t, R s t → ∀ v ∈ freeS n s, R (s ||| 2 ^ v) t ∨ ∃ u ∈ freeS m t, (behS m F t u).length ≤ (behS n E s v).length + d ∧ R (s ||| 2 ^ v) (t ||| 2 ^ u)) :
    ∀ (r s t : Nat), (freeS n s).length = r → R s t → twS m F t ≤ twS n E s + d := by
  intro r
  induction r with
  | zero =>
    intro s t hr hR
    have := h0 s t hR (List.length_eq_zero_iff.1 hr)
    omega
  | succ r ih =>
    intro s t hr hR
    obtain ⟨v, hv, he⟩ := tw_some (E := E) (n := n) (s := s) (fun e => by rw [e] at hr; simp at hr)
    have hp := freeS_put hv
    have hval : valS n E s v = max (behS n E s v).length (twS n E (s ||| 2 ^ v)) := rfl
    rcases h1 s t hR v hv with h | ⟨u, hu, hb, h⟩
    · have := ih (s ||| 2 ^ v) t (by omega) h
      omega
    · have h2 := ih (s ||| 2 ^ v) (t ||| 2 ^ u) (by omega) h
      have h3 := tw_le_val (E := F) hu
      have hval2 : valS m F t u = max (behS m F t u).length (twS m F (t ||| 2 ^ u)) := rfl
      omega
theorem nodup_len_map {A B : List Nat} {f : Nat → Nat} (hA : A.Nodup) (hf : ∀ x ∈ A, ∀ y ∈ A, f x = f y → x = y) (hB : ∀ x ∈ A, f x ∈ B) : A.length ≤ B.length := by
  have h1 : (A.map f).Nodup := by
    unfold List.Nodup
    rw [List.pairwise_map]
    refine hA.imp_of_mem fun {x y} hx hy hne e => hne (hf x hx y hy e)
  have h2 := nodup_sub (A.map f) B h1 fun y hy => by
    obtain ⟨x, hx, rfl⟩ := List.mem_map.1 hy
    exact hB x hx
  rwa [List.length_map] at h2
theorem behS_nodup (n : Nat) (E : Nat → Nat → Bool) (s v : Nat) : (behS n E s v).Nodup := (behS_rising n E s v).imp fun h => Nat.ne_of_lt h

section
variable {n u : Nat} {E F : Nat → Nat → Bool} {o : List Nat}
/-- The k-th of a list. -/
def atO (o : List Nat) (k : Nat) : Nat := o.getD k 0
theorem atO_eq {k : Nat} (h : k < o.length) : atO o k = o[k] := by simp [atO, h]
theorem atO_mem {k : Nat} (h : k < o.length) : atO o k ∈ o := by rw [atO_eq h]; exact List.getElem_mem h
theorem atO_inj (hn : o.Nodup) {i k : Nat} (hi : i < o.length) (hk : k < o.length) (e : atO o i = atO o k) : i = k := by
  rw [atO_eq hi, atO_eq hk] at e
  exact (List.getElem_inj hn).1 e
theorem atO_of {x : Nat} (h : x ∈ o) : ∃ k, k < o.length ∧ atO o k = x := by
  obtain ⟨k, hk, e⟩ := List.mem_iff_getElem.1 h
  exact ⟨k, hk, by rw [atO_eq hk, e]⟩
/-- A part of the graph, on some of its vertices, has no greater width. -/
theorem tw_part (hn : o.Nodup) (ho : ∀ x ∈ o, x < n) (hF : ∀ i k, F i k = true → i < o.length ∧ k < o.length ∧ E (atO o i) (atO o k) = true) : twS o.length F 0 ≤ twS n E 0 := by
  have := tw_sim (n := n) (m := o.length) (d := 0) (E := E) (F := F) (R := fun s t => ∀ i, i < o.length → t.testBit i = s.testBit (atO o i)) ?_ ?_ _ 0 0 rfl (fun i _ => by rw [Nat.zero_testBit, Nat.zero_testBit])
  · simpa using this
  · intro s t hR hs
    rw [tw_none]
    · exact Nat.le_refl _
    refine List.eq_nil_iff_forall_not_mem.2 fun i hi => ?_
    obtain ⟨h1, h2⟩ := mem_freeS.1 hi
    have : atO o i ∈ freeS n s := mem_freeS.2 ⟨ho _ (atO_mem h1), by rw [← hR i h1]; exact h2⟩
    rw [hs] at this
    cases this
  · intro s t hR v hv
    obtain ⟨hvn, hvs⟩ := mem_freeS.1 hv
    by_cases hvo : v ∈ o
    · obtain ⟨i, hi, rfl⟩ := atO_of hvo
      refine .inr ⟨i, mem_freeS.2 ⟨hi, by rw [hR i hi]; exact hvs⟩, ?_, fun k hk => ?_⟩
      · rw [Nat.add_zero]
        have hrch : ∀ x, Rch F (inS t) i x → x < o.length ∧ Rch E (inS s) (atO o i) (atO o x) := by
          intro x h
          induction h with
          | base => exact ⟨hi, .base⟩
          | @step x y h1 h2 h3 ih =>
            obtain ⟨q1, q2, q3⟩ := hF x y h2
            refine ⟨q2, .step ih.2 q3 ?_⟩
            have : t.testBit y = true := h3
            rw [hR y q2] at this
            exact this
        refine nodup_len_map (f := atO o) (behS_nodup _ _ _ _) (fun x hx y hy e => atO_inj hn (mem_behS.1 hx).1 (mem_behS.1 hy).1 e) fun k hk => ?_
        obtain ⟨k1, k2, k3, x, k4, k5⟩ := mem_behS.1 hk
        obtain ⟨q1, q2, q3⟩ := hF x k k5
        exact mem_behS.2 ⟨ho _ (atO_mem k1), by rw [← hR k k1]; exact k2, fun e => k3 (atO_inj hn k1 hi e), atO o x, (hrch x k4).2, q3⟩
      · rw [testBit_put, testBit_put, hR k hk]
        by_cases e : i = k
        · subst e; simp
        · have : ¬ atO o i = atO o k := fun c => e (atO_inj hn hi hk c)
          simp [e, this]
    · refine .inl fun k hk => ?_
      rw [testBit_put, hR k hk]
      have : ¬ v = atO o k := fun e => hvo (e ▸ atO_mem hk)
      simp [this]
/-- With one vertex more the width is greater by one at most. -/
theorem tw_more (hn : o.Nodup) (ho : ∀ x, x < n ↔ x ∈ o ∨ x = u) (huo : u ∉ o) (hE : ∀ x y, E x y = true → y < n) (hF : ∀ i k, i < o.length → k < o.length → E (atO o i) (atO o k) = true → F i k = true) : twS n E 0 ≤ twS o.length F 0 + 1 := by
  have hon : ∀ x ∈ o, x < n := fun x hx => (ho x).2 (.inl hx)
  have hun : u < n := (ho u).2 (.inr rfl)
  refine tw_sim (n := o.length) (m := n) (d := 1) (E := F) (F := E) (R := fun s t => (∀ i, i < o.length → t.testBit (atO o i) = s.testBit i) ∧ t.testBit u = false) ?_ ?_ _ 0 0 rfl ⟨fun i _ => by rw [Nat.zero_testBit, Nat.zero_testBit], Nat.zero_testBit u⟩
  · rintro s t ⟨hR, hu⟩ hs
    have hg : ∀ x ∈ o, t.testBit x = true := fun x hx => by
      obtain ⟨k, hk, rfl⟩ := atO_of hx
      rw [hR k hk]
      cases h : s.testBit k
      · have : k ∈ freeS o.length s := mem_freeS.2 ⟨hk, h⟩
        rw [hs] at this
        cases this
      · rfl
    have h1 := tw_le_val (E := E) (mem_freeS.2 ⟨hun, hu⟩ : u ∈ freeS n t)
    have h2 : behS n E t u = [] := List.eq_nil_iff_forall_not_mem.2 fun x hx => by
      obtain ⟨k1, k2, k3, _⟩ := mem_behS.1 hx
      rcases (ho x).1 k1 with h | h
      · rw [hg x h] at k2; cases k2
      · exact k3 h
    have h3 : twS n E (t ||| 2 ^ u) = 0 := tw_none (List.eq_nil_iff_forall_not_mem.2 fun x hx => by
      obtain ⟨k1, k2⟩ := mem_freeS.1 hx
      rw [testBit_put] at k2
      rcases (ho x).1 k1 with h | h
      · rw [hg x h] at k2; simp at k2
      · rw [h] at k2; simp at k2)
    have hval : valS n E t u = max (behS n E t u).length (twS n E (t ||| 2 ^ u)) := rfl
    rw [h2, h3] at hval
    simp at hval
    omega
  · rintro s t ⟨hR, hu⟩ i hi
    obtain ⟨hin, his⟩ := mem_freeS.1 hi
    refine .inr ⟨atO o i, mem_freeS.2 ⟨hon _ (atO_mem hin), by rw [hR i hin]; exact his⟩, ?_, fun k hk => ?_, ?_⟩
    · have hrch : ∀ x, Rch E (inS t) (atO o i) x → ∃ k, k < o.length ∧ atO o k = x ∧ Rch F (inS s) i k := by
        intro x h
        induction h with
        | base => exact ⟨i, hin, rfl, .base⟩
        | @step x y h1 h2 h3 ih =>
          obtain ⟨k, hk, rfl, hr⟩ := ih
          have hyt : t.testBit y = true := h3
          have hyn := hE _ _ h2
          rcases (ho y).1 hyn with hy | hy
          · obtain ⟨l, hl, rfl⟩ := atO_of hy
            rw [hR l hl] at hyt
            exact ⟨l, hl, rfl, .step hr (hF k l hk hl h2) hyt⟩
          · rw [hy, hu] at hyt; cases hyt
      have hsub : ∀ x ∈ behS n E t (atO o i), x ∈ u :: (behS o.length F s i).map (atO o) := fun x hx => by
        obtain ⟨k1, k2, k3, y, k4, k5⟩ := mem_behS.1 hx
        rcases (ho x).1 k1 with h | h
        · obtain ⟨k, hk, rfl⟩ := atO_of h
          obtain ⟨l, hl, rfl, hr⟩ := hrch y k4
          refine List.mem_cons_of_mem _ (List.mem_map.2 ⟨k, mem_behS.2 ⟨hk, by rw [← hR k hk]; exact k2, fun e => k3 (by rw [e]), l, hr, hF l k hl hk k5⟩, rfl⟩)
        · rw [h]; exact List.mem_cons_self ..
      have := nodup_sub _ _ (behS_nodup n E t (atO o i)) hsub
      rw [List.length_cons, List.length_map] at this
      exact this
    · rw [testBit_put, testBit_put, hR k hk]
      by_cases e : i = k
      · subst e; simp
      · have : ¬ atO o i = atO o k := fun c => e (atO_inj hn hin hk c)
        simp [e, this]
    · rw [testBit_put, hu]
      have : ¬ atO o i = u := fun e => huo (e ▸ atO_mem hin)
      simp [this]
end

/-- Where an edge is contracted the width does not grow. -/
theorem tw_con {n a b : Nat} {E F : Nat → Nat → Bool} {o : List Nat} (hs : ∀ x y, E x y = true → E y x = true) (hn : o.Nodup) (ho : ∀ x, x ∈ o ↔ x < n ∧ x ≠ b) (ha : a < n) (hb : b < n) (hab : a ≠ b) (hE : E a b = true)
    (hF : ∀ i k, F i k = true → i < o.length ∧ k < o.length ∧ i ≠ k ∧ conE E a b (atO o i) (atO o k) = true) : twS o.length F 0 ≤ twS n E 0 := by
  have hba := hs _ _ hE
  have haO : a ∈ o := (ho a).2 ⟨ha, hab⟩
  obtain ⟨ia, hia, hiae⟩ := atO_of haO
  have hon : ∀ {k}, k < o.length → atO o k < n := fun hk => ((ho _).1 (atO_mem hk)).1
  have hob : ∀ {k}, k < o.length → atO o k ≠ b := fun hk => ((ho _).1 (atO_mem hk)).2
  -- edges of the contracted graph
  have hed : ∀ {i k}, i < o.length → k < o.length → i ≠ k → conE E a b (atO o i) (atO o k) = true →
      (atO o i ≠ a → atO o k ≠ a → E (atO o i) (atO o k) = true) ∧ (atO o i = a → E a (atO o k) = true ∨ E b (atO o k) = true) ∧ (atO o k = a → E (atO o i) a = true ∨ E (atO o i) b = true) := by
    intro i k hi hk hik h
    unfold conE at h
    simp only [Bool.or_eq_true, Bool.and_eq_true, beq_iff_eq, bne_iff_ne] at h
    refine ⟨fun h1 h2 => ?_, fun h1 => ?_, fun h1 => ?_⟩
    · rcases h with (h | h) | h
      · exact h
      · exact absurd h.1 h1
      · exact absurd h.1 h2
    · rcases h with (h | h) | h
      · rw [h1] at h; exact .inl h
      · exact .inr h.2.1
      · exact absurd (by rw [h.1, h1]) (fun e : atO o i = atO o k => hik (atO_inj hn hi hk e))
    · rcases h with (h | h) | h
      · rw [h1] at h; exact .inl h
      · exact absurd (by rw [h.1, h1]) (fun e : atO o i = atO o k => hik (atO_inj hn hi hk e))
      · exact .inr (hs _ _ h.2.1)
  -- what is reached
  have key : ∀ (s t v i : Nat), (∀ k, k < o.length → atO o k ≠ a → t.testBit k = s.testBit (atO o k)) → (t.testBit ia = true → s.testBit a = true ∧ s.testBit b = true) → i < o.length →
      ((atO o i = a → Rch E (inS s) v a ∧ Rch E (inS s) v b) ∧ (atO o i ≠ a → Rch E (inS s) v (atO o i))) →
      ∀ x, Rch F (inS t) i x → x < o.length ∧ ((atO o x = a → Rch E (inS s) v a ∧ Rch E (inS s) v b) ∧ (atO o x ≠ a → Rch E (inS s) v (atO o x))) := by
    intro s t v i hR1 hR2 hi hbase x h
    induction h with
    | base => exact ⟨hi, hbase⟩
    | @step x y h1 h2 h3 ih =>
      obtain ⟨q1, q2, q3, q4⟩ := hF x y h2
      obtain ⟨e1, e2, e3⟩ := hed q1 q2 q3 q4
      have hty : t.testBit y = true := h3
      refine ⟨q2, fun hy => ?_, fun hy => ?_⟩
      · have hyi : y = ia := atO_inj hn q2 hia (by rw [hy, hiae])
        obtain ⟨sa, sb⟩ := hR2 (by rw [← hyi]; exact hty)
        have hxa : atO o x ≠ a := fun e => q3 (atO_inj hn q1 q2 (by rw [e, hy]))
        have hr := ih.2.2 hxa
        rcases e3 hy with h | h
        · have r1 : Rch E (inS s) v a := .step hr h sa
          exact ⟨r1, .step r1 hE sb⟩
        · have r1 : Rch E (inS s) v b := .step hr h sb
          exact ⟨.step r1 hba sa, r1⟩
      · have hsy : inS s (atO o y) := by
          have := hR1 y q2 hy
          rw [hty] at this
          exact this.symm
        by_cases hx : atO o x = a
        · obtain ⟨r1, r2⟩ := ih.2.1 hx
          rcases e2 hx with h | h
          · exact .step r1 h hsy
          · exact .step r2 h hsy
        · exact .step (ih.2.2 hx) (e1 hx hy) hsy
  have := tw_sim (n := n) (m := o.length) (d := 0) (E := E) (F := F)
    (R := fun s t => (∀ k, k < o.length → atO o k ≠ a → t.testBit k = s.testBit (atO o k)) ∧ t.testBit ia = (s.testBit a && s.testBit b)) ?_ ?_ _ 0 0 rfl ⟨fun k _ _ => by rw [Nat.zero_testBit, Nat.zero_testBit], by rw [Nat.zero_testBit, Nat.zero_testBit]; rfl⟩
  · simpa using this
  · rintro s t ⟨hR1, hR2⟩ hfs
    have hall : ∀ x, x < n → s.testBit x = true := fun x hx => by
      cases h : s.testBit x
      · have : x ∈ freeS n s := mem_freeS.2 ⟨hx, h⟩
        rw [hfs] at this
        cases this
      · rfl
    rw [tw_none]
    · exact Nat.le_refl _
    refine List.eq_nil_iff_forall_not_mem.2 fun k hk => ?_
    obtain ⟨k1, k2⟩ := mem_freeS.1 hk
    by_cases e : atO o k = a
    · have : k = ia := atO_inj hn k1 hia (by rw [e, hiae])
      rw [this, hR2, hall a ha, hall b hb] at k2
      cases k2
    · rw [hR1 k k1 e, hall _ (hon k1)] at k2
      cases k2
  · rintro s t ⟨hR1, hR2⟩ v hv
    obtain ⟨hvn, hvs⟩ := mem_freeS.1 hv
    have hR3 : t.testBit ia = true → s.testBit a = true ∧ s.testBit b = true := fun h => by rw [hR2, Bool.and_eq_true] at h; exact h
    -- the merged one goes: it stands for v, the other is gone
    have merged : ∀ c, (v = a ∧ c = b ∨ v = b ∧ c = a) → s.testBit c = true → ∃ u ∈ freeS o.length t, (behS o.length F t u).length ≤ (behS n E s v).length + 0 ∧ ((∀ k, k < o.length → atO o k ≠ a → (t ||| 2 ^ u).testBit k = (s ||| 2 ^ v).testBit (atO o k)) ∧ (t ||| 2 ^ u).testBit ia = ((s ||| 2 ^ v).testBit a && (s ||| 2 ^ v).testBit b)) := by
      intro c hc hcs
      have htf : t.testBit ia = false := by
        rw [hR2]
        rcases hc with ⟨rfl, rfl⟩ | ⟨rfl, rfl⟩
        · rw [hvs]; rfl
        · rw [hvs]; simp
      have hvc : E v c = true := by
        rcases hc with ⟨rfl, rfl⟩ | ⟨rfl, rfl⟩
        · exact hE
        · exact hba
      have hbase : (atO o ia = a → Rch E (inS s) v a ∧ Rch E (inS s) v b) ∧ (atO o ia ≠ a → Rch E (inS s) v (atO o ia)) := by
        refine ⟨fun _ => ?_, fun h => absurd hiae h⟩
        rcases hc with ⟨rfl, rfl⟩ | ⟨rfl, rfl⟩
        · exact ⟨.base, .step .base hvc hcs⟩
        · exact ⟨.step .base hvc hcs, .base⟩
      refine ⟨ia, mem_freeS.2 ⟨hia, htf⟩, ?_, fun k hk hka => ?_, ?_⟩
      · rw [Nat.add_zero]
        refine nodup_len_map (f := atO o) (behS_nodup _ _ _ _) (fun x hx y hy e => atO_inj hn (mem_behS.1 hx).1 (mem_behS.1 hy).1 e) fun k hk => ?_
        obtain ⟨k1, k2, k3, x, k4, k5⟩ := mem_behS.1 hk
        obtain ⟨q1, q2, q3, q4⟩ := hF x k k5
        obtain ⟨e1, e2, _⟩ := hed q1 q2 q3 q4
        have hka : atO o k ≠ a := fun e => k3 (atO_inj hn k1 hia (by rw [e, hiae]))
        obtain ⟨_, p1, p2⟩ := key s t v ia hR1 hR3 hia hbase x k4
        have hkv : atO o k ≠ v := by
          rcases hc with ⟨rfl, rfl⟩ | ⟨rfl, rfl⟩
          · exact hka
          · exact hob k1
        refine mem_behS.2 ⟨hon k1, by rw [← hR1 k k1 hka]; exact k2, hkv, ?_⟩
        by_cases hx : atO o x = a
        · rcases e2 hx with h | h
          · exact ⟨a, (p1 hx).1, h⟩
          · exact ⟨b, (p1 hx).2, h⟩
        · exact ⟨atO o x, p2 hx, e1 hx hka⟩
      · rw [testBit_put, testBit_put, hR1 k hk hka]
        have e1 : ¬ ia = k := fun e => hka (by rw [← e, hiae])
        have e2 : ¬ v = atO o k := by
          rcases hc with ⟨rfl, rfl⟩ | ⟨rfl, rfl⟩
          · exact fun e => hka e.symm
          · exact fun e => hob hk e.symm
        simp [e1, e2]
      · rw [testBit_put, testBit_put, testBit_put]
        rcases hc with ⟨rfl, rfl⟩ | ⟨rfl, rfl⟩
        · simp [hcs]
        · simp [hcs]
    have skip : ∀ c, (v = a ∧ c = b ∨ v = b ∧ c = a) → s.testBit c = false → ((∀ k, k < o.length → atO o k ≠ a → t.testBit k = (s ||| 2 ^ v).testBit (atO o k)) ∧ t.testBit ia = ((s ||| 2 ^ v).testBit a && (s ||| 2 ^ v).testBit b)) := by
      intro c hc hcs
      refine ⟨fun k hk hka => ?_, ?_⟩
      · rw [testBit_put, hR1 k hk hka]
        have e2 : ¬ v = atO o k := by
          rcases hc with ⟨rfl, rfl⟩ | ⟨rfl, rfl⟩
          · exact fun e => hka e.symm
          · exact fun e => hob hk e.symm
        simp [e2]
      · rw [testBit_put, testBit_put, hR2]
        rcases hc with ⟨rfl, rfl⟩ | ⟨rfl, rfl⟩
        · rw [hvs, hcs]
          simp [hab]
        · rw [hvs, hcs]
          simp [hab.symm]
    by_cases hva : v = a
    · cases hbs : s.testBit b
      · exact .inl (skip b (.inl ⟨hva, rfl⟩) hbs)
      · exact .inr (merged b (.inl ⟨hva, rfl⟩) hbs)
    by_cases hvb : v = b
    · cases has : s.testBit a
      · exact .inl (skip a (.inr ⟨hvb, rfl⟩) has)
      · exact .inr (merged a (.inr ⟨hvb, rfl⟩) has)
    obtain ⟨i, hi, hie⟩ := atO_of ((ho v).2 ⟨hvn, hvb⟩)
    have hiA : atO o i ≠ a := by rw [hie]; exact hva
    have hbase : (atO o i = a → Rch E (inS s) v a ∧ Rch E (inS s) v b) ∧ (atO o i ≠ a → Rch E (inS s) v (atO o i)) := ⟨fun e => absurd e hiA, fun _ => by rw [hie]; exact .base⟩
    refine .inr ⟨i, mem_freeS.2 ⟨hi, by rw [hR1 i hi hiA, hie]; exact hvs⟩, ?_, fun k hk hka => ?_, ?_⟩
    · rw [Nat.add_zero]
      obtain ⟨f, hf⟩ : ∃ f : Nat → Nat, f = fun k => if atO o k = a then (if a ∈ behS n E s v then a else b) else atO o k := ⟨_, rfl⟩
      have hf1 : ∀ k, atO o k ≠ a → f k = atO o k := fun k h => by rw [hf]; exact if_neg h
      have hf2 : ∀ k, atO o k = a → f k = a ∨ f k = b := fun k h => by
        rw [hf]
        show (if atO o k = a then (if a ∈ behS n E s v then a else b) else atO o k) = a ∨ _ = b
        rw [if_pos h]
        by_cases h2 : a ∈ behS n E s v
        · exact .inl (by rw [if_pos h2])
        · refine .inr ?_
          show (if atO o k = a then (if a ∈ behS n E s v then a else b) else atO o k) = b
          rw [if_pos h, if_neg h2]
      refine nodup_len_map (f := f) (behS_nodup _ _ _ _) (fun x hx y hy e => ?_) fun k hk => ?_
      · have x1 := (mem_behS.1 hx).1
        have y1 := (mem_behS.1 hy).1
        by_cases hxa : atO o x = a <;> by_cases hya : atO o y = a
        · exact atO_inj hn x1 y1 (by rw [hxa, hya])
        · rw [hf1 y hya] at e
          rcases hf2 x hxa with h | h
          · exact absurd (by rw [← e, h]) hya
          · exact absurd (by rw [← e, h]) (hob y1)
        · rw [hf1 x hxa] at e
          rcases hf2 y hya with h | h
          · exact absurd (by rw [e, h]) hxa
          · exact absurd (by rw [e, h]) (hob x1)
        · rw [hf1 x hxa, hf1 y hya] at e
          exact atO_inj hn x1 y1 e
      · obtain ⟨k1, k2, k3, x, k4, k5⟩ := mem_behS.1 hk
        obtain ⟨q1, q2, q3, q4⟩ := hF x k k5
        obtain ⟨e1, e2, e3⟩ := hed q1 q2 q3 q4
        obtain ⟨_, p1, p2⟩ := key s t v i hR1 hR3 hi hbase x k4
        by_cases hka : atO o k = a
        · have hki : k = ia := atO_inj hn k1 hia (by rw [hka, hiae])
          have hgone : s.testBit a = false ∨ s.testBit b = false := by
            rw [hki, hR2] at k2
            cases h : s.testBit a
            · exact .inl rfl
            · rw [h] at k2; exact .inr (by simpa using k2)
          have hxa : atO o x ≠ a := fun e => q3 (atO_inj hn q1 q2 (by rw [e, hka]))
          have hr := p2 hxa
          have hor : a ∈ behS n E s v ∨ b ∈ behS n E s v := by
            rcases e3 hka with h | h
            · cases hsa : s.testBit a
              · exact .inl (mem_behS.2 ⟨ha, hsa, fun e => hva e.symm, _, hr, h⟩)
              · have hsb : s.testBit b = false := by
                  rcases hgone with h1 | h1
                  · rw [hsa] at h1; cases h1
                  · exact h1
                exact .inr (mem_behS.2 ⟨hb, hsb, fun e => hvb e.symm, a, .step hr h hsa, hE⟩)
            · cases hsb : s.testBit b
              · exact .inr (mem_behS.2 ⟨hb, hsb, fun e => hvb e.symm, _, hr, h⟩)
              · have hsa : s.testBit a = false := by
                  rcases hgone with h1 | h1
                  · exact h1
                  · rw [hsb] at h1; cases h1
                exact .inl (mem_behS.2 ⟨ha, hsa, fun e => hva e.symm, b, .step hr h hsb, hba⟩)
          rw [hf]
          show (if atO o k = a then (if a ∈ behS n E s v then a else b) else atO o k) ∈ _
          rw [if_pos hka]
          by_cases h2 : a ∈ behS n E s v
          · rw [if_pos h2]; exact h2
          · rw [if_neg h2]
            rcases hor with h | h
            · exact absurd h h2
            · exact h
        · rw [hf1 k hka]
          refine mem_behS.2 ⟨hon k1, by rw [← hR1 k k1 hka]; exact k2, fun e => k3 (atO_inj hn k1 hi (by rw [e, hie])), ?_⟩
          by_cases hx : atO o x = a
          · rcases e2 hx with h | h
            · exact ⟨a, (p1 hx).1, h⟩
            · exact ⟨b, (p1 hx).2, h⟩
          · exact ⟨atO o x, p2 hx, e1 hx hka⟩
    · rw [testBit_put, testBit_put, hR1 k hk hka]
      by_cases e : i = k
      · subst e; simp [hie]
      · have : ¬ v = atO o k := fun c => e (atO_inj hn hi hk (by rw [hie, c]))
        simp [e, this]
    · rw [testBit_put, testBit_put, testBit_put, hR2]
      have e1 : ¬ i = ia := fun e => hiA (by rw [e, hiae])
      simp [e1, hva, hvb]

end Go.Proofs.YtiooindlpinjhaaDoor
