/- Walk: the law FnLoops (printed by wip/mkLq.py). -/
import Derived.Test.YtkppbmfliejnmaaDoorLpQ23
import Derived.Test.YtkppbmfliejnmaaDoorLpQ32
import Derived.Test.YtkppbmfliejnmaaDoorLpQ34
import Derived.Test.YtkppbmfliejnmaaDoorLpQ40
import Derived.Test.YtkppbmfliejnmaaDoorLpQ41
import Derived.Test.YtkppbmfliejnmaaDoorLpQ42
import Derived.Test.YtkppbmfliejnmaaDoorLpQ39
import Derived.Test.YtkppbmfliejnmaaDoorLpQ43
namespace Go.Proofs.YtkppbmfliejnmaaDoor
open Go.RowKit

theorem below_setBoxL {B b : Nat} {a w : World} {T : TypeId} {v : Value} (h : Below B a w) (hx : Box w b T v) (hb : B ≤ b) (u : Value) : Below B a (w.setCell ⟨b, 0, none⟩ u) := h.setCell (p := ⟨b, 0, none⟩) hb u
theorem below_al1L (w : World) (o : Obj) : Below w.heap.size w (w.alloc o).drew := below_dN (below_alloc w o) 1
theorem below_al2L (w : World) (o o2 : Obj) : Below w.heap.size w ((w.alloc o).alloc o2).drew := below_dN (below_alloc2 w o o2) 1
theorem Box.drewL {w : World} {b : Nat} {T : TypeId} {v : Value} (h : Box w b T v) : Box w.drew b T v := h.keep (below_dN (Below.refl _ _) 1)
theorem DG.sgLp {w : World} {base : Nat} {v : Value} {g : List (List Int)} (h : DG w base v g) (hr : ∀ j, (row g j).length ≤ 1000000000) : SG w base v g := by
  obtain ⟨u, vals, h1, h2, h3, h4⟩ := h
  exact ⟨u, vals, h1, h2, h3, fun j hj => Nums.of_owns (h4.rows j hj) rfl (hr j)⟩

set_option maxRecDepth 100000 in
set_option maxHeartbeats 8000000 in
theorem lawLoops_any (v0 : Value) (bs : List Int) (W : World) (ha : ArgB W v0 bs) (hT : Tab W) :
    Calls Tryd.prog 9 #[v0] W fun e w' => e = .returned (.bool true) ∧ Below W.heap.size W w' := by
  obtain ⟨p, c, e0, _⟩ := id ha
  subst e0
  have HA := Lib.hid ha
  have HT := Lib.hid hT
  clear ha hT
  go_enter Tryd.func9, Tryd.ntmps9
  by_cases hbig : 4096 < bs.length
  · have hd := decide_eq_true hbig
    go_wp2_with (go_at_call 11; refine (big_any _ bs _ HA.out).mono ?_; rintro e w2 ⟨he, rfl⟩; rw [hd] at he; subst he)
    go_ret
    exact ⟨rfl, Below.refl _ _⟩
  have hd := decide_eq_false hbig
  have hl : bs.length ≤ 4096 := by omega
  clear hbig
  go_upto_region 4 with (first
    | (go_at_call 70; refine (drawLeastLoop_any _ bs hl _ HA.out).mono ?_; rintro e w2 ⟨u, g, rfl, hg, hgl, hb2⟩; obtain ⟨gu, rfl, hgr2⟩ := hg; obtain ⟨gp, gc, rfl, _⟩ := hgr2.shape)
    | (go_at_call 11; refine (big_any _ bs _ HA.out).mono ?_; rintro e w1 ⟨he, rfl⟩; rw [hd] at he; subst he))
  obtain ⟨w3, hw3⟩ : ∃ w3, w3 = w2.alloc (.cells #[.slice gp g.length gc] 29) := ⟨_, rfl⟩
  rw [← hw3]
  have hb23 : Below w2.heap.size w2 w3 := by rw [hw3]; exact below_alloc _ _
  have HX3 : Hid (Box w3 w2.heap.size 29 (.slice gp g.length gc)) := Lib.hid (by rw [hw3]; exact Box.new _ _ _)
  have HG3 : Hid (Gr w3 (.agg #[.slice gp g.length gc]) g) := Lib.hid ⟨_, rfl, hgr2.below hb23⟩
  have HW3 := Lib.hid (hb2.trans (hb23.mono hb2.size))
  have c3 := HX3.out.cell
  generalize w2.heap.size = bg at *
  clear hw3 hb23 hgr2 hb2 HX3
  go_upto_region 5 with (go_at_call 71; refine (implLeastLoop_any _ g _ HG3.out (HT.out.keep HW3.out)).mono ?_; rintro e w4 ⟨lv, l, rfl, hlp, hl16, hnl, hb4⟩; have HLP := Lib.hid hlp; have HNL := Lib.hid hnl; have c4 := hb4.at' c3; have HG4 := Lib.hid (HG3.out.below hb4); have HW4 := Lib.hid (HW3.out.trans (hb4.mono HW3.out.size)); clear hb4 hlp hnl)
  obtain ⟨lp, lc, rfl, _⟩ := id HNL.out.shape
  go_upto_region 7 with (first
    | (go_at_call 72; refine (specLeastLoop_any _ g _ HG4.out).mono ?_; rintro e w5 ⟨kv, k, rfl, hkp, _, hnk, hb5⟩; obtain rfl := lpS_det HLP.out hkp; have HNK := Lib.hid hnk; have HN5 := Lib.hid (HNL.out.below hb5); have c5 := hb5.at' c4; have HG5 := Lib.hid (HG4.out.below hb5); have HW5 := Lib.hid (HW4.out.trans (hb5.mono HW4.out.size)); clear hb5 hkp hnk)
    | (go_at_call 26; refine (likeInts_any _ _ _ _ _ HN5.out HNK.out).mono ?_; rintro e w6 ⟨he, hb6⟩; rw [dec_true rfl] at he; subst he; have HN6 := Lib.hid (HN5.out.below hb6); have c6 := hb6.at' c5; have HG6 := Lib.hid (HG5.out.below hb6); have HW6 := Lib.hid (HW5.out.trans (hb6.mono HW5.out.size)); clear hb6))
  clear HG3 HG4 HG5 HW3 HW4 HW5 HN5 HNK HNL c3 c4 c5
  by_cases hok : GOk g
  case neg =>
    have HD := Lib.hid (dec_false hok)
    obtain rfl : l = [] := by
      rcases HLP.out with ⟨h, _⟩ | ⟨_, h⟩
      · exact absurd h hok
      · exact h
    clear hok
    go_wp2_with (go_at_call 73; refine (specGraphOk_any _ g _ HG6.out).mono ?_; rintro e w7 ⟨he, hb7⟩; rw [HD.out] at he; subst he; have HW7 := Lib.hid (HW6.out.trans (hb7.mono HW6.out.size)); clear hb7)
    go_ret
    exact ⟨rfl, HW7.out⟩
  have HD := Lib.hid (dec_true hok)
  have HOK := Lib.hid hok
  have h16 := hok.le
  have h1 := hok.pos
  obtain ⟨mE, hmE⟩ : ∃ mE, mE = cntE g g.length := ⟨_, rfl⟩
  have hmB : mE ≤ 256 := by
    have e := cntE_edN hok _ (Nat.le_refl _)
    rw [← hmE] at e
    have h3 := edN_length g.length (ofG g) g.length
    have h4 : g.length * g.length ≤ 16 * 16 := Nat.mul_le_mul h16 h16
    omega
  have FORE : Hid (∀ gg, PtS g gg → g.length ≤ mE + gg.length ∧ (g.length < mE + gg.length ↔ ∃ L, LpOk g.length (ofG g) L)) := Lib.hid fun gg h => by
    rcases h with ⟨_, ps, hp, rfl⟩ | ⟨h, _⟩
    · have e := cntE_edN HOK.out _ (Nat.le_refl _)
      rw [← hmE] at e
      rw [List.length_map, e]
      exact forest_loop (ofG_sym HOK.out) (ofG_irr HOK.out) hp
    · exact absurd HOK.out h
  have MANY : Hid (∀ wz, Gr wz (.agg #[.slice gp g.length gc]) g → Calls Tryd.prog 56 #[.agg #[.slice gp g.length gc]] wz fun e w' => e = .returned (.int .i64 (mE : Int)) ∧ Below wz.heap.size wz w') := Lib.hid fun wz h => by rw [hmE]; exact specManyN_any _ g HOK.out wz h
  clear hok hmE
  go_upto_region 9 with (go_at_call 73; refine (specGraphOk_any _ g _ HG6.out).mono ?_; rintro e w7 ⟨he, hb7⟩; rw [HD.out] at he; subst he; have HN7 := Lib.hid (HN6.out.below hb7); have c7 := hb7.at' c6; have HG7 := Lib.hid (HG6.out.below hb7); have HW7 := Lib.hid (HW6.out.trans (hb7.mono HW6.out.size)); clear hb7)
  clear HG6 HW6 HN6 c6
  by_cases hlp : ∃ L, LpOk g.length (ofG g) L
  case neg =>
    have HNO := Lib.hid hlp
    obtain rfl : l = [] := by
      rcases HLP.out with ⟨_, L, h, _⟩ | ⟨_, h⟩
      · exact absurd ⟨L, h.1⟩ hlp
      · exact h
    clear hlp
    go_cut [5] (fun s wx => s = .bool true ∧ Below w7.heap.size w7 wx)
    case first =>
      go_region_held3 (fun Z => Z.cell? ⟨bg, 0, none⟩ = some (.slice gp g.length gc))
        (first | exact c7 | go_keep | exact BWB.at' c7 | exact BWA.at' c7)
        (first
          | (go_at_call 61; refine (specPartsOf_any _ g _ (HG7.out.below BWA)).mono ?_; rintro e wb ⟨u, gg, rfl, hps, hsg, hg16, _, hb⟩; obtain ⟨qp, qc, e9⟩ := hsg.shape; cases e9; have h9 : ¬ g.length < mE + gg.length := fun h => HNO.out (FORE.out gg hps |>.2.1 h); have h8 := (FORE.out gg hps).1; obtain ⟨cc, hcc⟩ : ∃ cc, cc = gg.length := ⟨_, rfl⟩; rw [← hcc] at h8 h9 hg16 ⊢; obtain ⟨r, hr⟩ : ∃ r, r = (g.length : Int) - (cc : Int) := ⟨_, rfl⟩; have hwr : IntKind.i64.wrap ((g.length : Int) - (cc : Int)) = r := (by rw [IntKind.wrap_i64]; omega); have hT : ((mE : Int) == r) = true := (by rw [hr, beq_iff_eq]; omega); have BWB : Below w7.heap.size w7 wb := BWA.trans (hb.mono BWA.size); clear hb hsg hps h8 h9 hr hcc)
          | (go_at_call 56; refine (MANY.out _ (HG7.out.below (below_dN (Below.refl _ _) 1))).mono ?_; rintro e wa ⟨rfl, hb⟩; have BWA : Below w7.heap.size w7 wa := (below_dN (Below.refl _ _) 1).trans hb; clear hb))
      all_goals go_wp2
      all_goals go_meet
      all_goals exact ⟨by first | rfl | (rw [hT]) | (simp [hT]), BWB⟩
    case rest =>
    obtain ⟨rfl, hb8⟩ := hcut
    have HW8 := Lib.hid (HW7.out.trans (hb8.mono HW7.out.size))
    clear hb8
    go_wp2_with fail
    go_ret
    exact ⟨rfl, HW8.out⟩
  have HYES := Lib.hid hlp
  obtain ⟨L, hLL, hlL⟩ : ∃ L, LeastLp g.length (ofG g) L ∧ l = natInts L := by
    rcases HLP.out with ⟨_, L, h, e⟩ | ⟨h, _⟩
    · exact ⟨L, h, e⟩
    · rcases h with h | h
      · exact absurd HOK.out h
      · exact absurd hlp h
  subst hlL
  have h3 := hLL.1.long
  have hll := nodup_le g.length L hLL.1.nod hLL.1.inn
  have HLL := Lib.hid hLL
  obtain ⟨m, hm⟩ : ∃ m, m = L.length := ⟨_, rfl⟩
  have HM := Lib.hid hm
  have hln := natInts_length L
  rw [hln, ← hm] at HN7 ⊢
  rw [← hm] at h3 hll
  have hne0 : ((m : Int) == 0) = false := beq_eq_false_iff_ne.2 (by omega)
  clear hlp hLL hln hm
  go_cut [5] (fun s wx => s = .bool false ∧ Below w7.heap.size w7 wx)
  case first =>
    go_region_held3 (fun Z => Z.cell? ⟨bg, 0, none⟩ = some (.slice gp g.length gc))
      (first | exact c7 | go_keep | exact BWB.at' c7 | exact BWA.at' c7)
      (first
        | (go_at_call 61; refine (specPartsOf_any _ g _ (HG7.out.below BWA)).mono ?_; rintro e wb ⟨u, gg, rfl, hps, hsg, hg16, _, hb⟩; obtain ⟨qp, qc, e9⟩ := hsg.shape; cases e9; have h9 : g.length < mE + gg.length := (FORE.out gg hps).2.2 HYES.out; have h8 := (FORE.out gg hps).1; obtain ⟨cc, hcc⟩ : ∃ cc, cc = gg.length := ⟨_, rfl⟩; rw [← hcc] at h8 h9 hg16 ⊢; obtain ⟨r, hr⟩ : ∃ r, r = (g.length : Int) - (cc : Int) := ⟨_, rfl⟩; have hwr : IntKind.i64.wrap ((g.length : Int) - (cc : Int)) = r := (by rw [IntKind.wrap_i64]; omega); have hT : ((mE : Int) == r) = false := (by rw [hr, beq_eq_false_iff_ne]; omega); have BWB : Below w7.heap.size w7 wb := BWA.trans (hb.mono BWA.size); clear hb hsg hps h8 h9 hr hcc)
        | (go_at_call 56; refine (MANY.out _ (HG7.out.below (below_dN (Below.refl _ _) 1))).mono ?_; rintro e wa ⟨rfl, hb⟩; have BWA : Below w7.heap.size w7 wa := (below_dN (Below.refl _ _) 1).trans hb; clear hb))
    all_goals go_wp2
    all_goals go_meet
    all_goals exact ⟨by first | rfl | (rw [hT]) | (simp [hT]), BWB⟩
  case rest =>
  obtain ⟨rfl, hb8⟩ := hcut
  obtain ⟨w8, rfl⟩ : ∃ w8, w8 = wc := ⟨_, rfl⟩
  have HN8 := Lib.hid (HN7.out.below hb8)
  have c8 := hb8.at' c7
  have HG8 := Lib.hid (HG7.out.below hb8)
  have HW8 := Lib.hid (HW7.out.trans (hb8.mono HW7.out.size))
  clear hb8 c7 HG7 HW7 HN7
  go_upto_region 14 with fail
  obtain ⟨o, ho⟩ : ∃ o, o = bothN L [] 16 := ⟨_, rfl⟩
  have HPO : Hid (o.Perm L) := Lib.hid (by
    rw [ho]
    refine (List.perm_ext_iff_of_nodup ?_ HLL.out.1.nod).2 fun x => ?_
    · exact List.nodup_range.sublist List.filter_sublist
    · rw [mem_bothN]
      constructor
      · rintro ⟨_, h | h⟩
        · exact h
        · cases h
      · exact fun h => ⟨by have := HLL.out.1.inn x h; omega, .inl h⟩)
  have hol : o.length = m := by rw [HM.out]; exact HPO.out.length_eq
  have HOI : Hid (SetIn g.length (natInts o)) := Lib.hid (by
    refine ⟨fun x hx => ?_, ?_⟩
    · obtain ⟨i, hi, rfl⟩ := mem_natInts.1 hx
      have := HLL.out.1.inn i (HPO.out.subset hi)
      omega
    · rw [ho]
      unfold natInts bothN
      rw [List.pairwise_map]
      exact (List.Pairwise.filter _ List.pairwise_lt_range).imp fun h => by omega)
  obtain ⟨x, hx⟩ : ∃ x, x = indL g (natInts o) := ⟨_, rfl⟩
  have hxl : x.length = m := by rw [hx, ← hol]; unfold indL matG; rw [List.length_map, List.length_range, natInts_length]
  have HXL : Hid (x.length ≤ 16) := Lib.hid (by omega)
  have HXOK : Hid (GOk x) := Lib.hid (by rw [hx]; exact indL_gok HOK.out (fun v hv => HLL.out.1.inn v (HPO.out.subset hv)) (by omega) (by omega))
  have HXC : Hid (cntE x x.length = m) := Lib.hid (by rw [hx, HM.out]; exact loop_edges HOK.out HLL.out HPO.out)
  have HNV : Hid (∀ wz : World, Nums (wz.alloc (.cells #[] 2)) 2 .i64 (.slice (some ⟨wz.heap.size, 0, none⟩) 0 0) (natInts [])) := Lib.hid fun wz => Nums.of_owns (ownsRow_empty wz 2 1) rfl (by decide)
  have BOTH : Hid (∀ (wz : World) (ev : Value), Below w8.heap.size w8 wz → Nums wz 2 .i64 ev (natInts []) → Calls Tryd.prog 74 #[.slice lp m lc, ev] wz fun e w' => ∃ rv, e = .returned rv ∧ Nums w' 2 .i64 rv (natInts o) ∧ Below wz.heap.size wz w') := Lib.hid fun wz ev h1 h2 => by
    refine (w5Both_any _ ev L [] (by rw [← HM.out]; omega) (by decide) wz (HN8.out.below h1) h2).mono ?_
    rintro e w' ⟨rv, rfl, h3, h4⟩
    rw [← ho] at h3
    exact ⟨rv, rfl, Nums.of_owns h3 (by rw [natInts_length]) (by omega), h4⟩
  have IND : Hid (∀ (wz : World) (lv : Value), Below w8.heap.size w8 wz → Nums wz 2 .i64 lv (natInts o) → Calls Tryd.prog 39 #[.agg #[.slice gp g.length gc], lv] wz fun e w' => ∃ xp xc, e = .returned (.tuple #[.agg #[.slice xp x.length xc], .bool true]) ∧ SG w' wz.heap.size (.agg #[.slice xp x.length xc]) x ∧ Below wz.heap.size wz w') := Lib.hid fun wz lv h1 h2 => by
    refine (implInduced_yes _ lv g o HOK.out HOI.out (fun e => by rw [e] at hol; simp at hol; omega) wz (HG8.out.below h1) h2 (HT.out.keep (HW8.out.trans (h1.mono HW8.out.size)))).mono ?_
    rintro e w' ⟨u, rfl, hd, hb⟩
    rw [← hx] at hd
    obtain ⟨xp, xc, rfl⟩ := hd.shape
    exact ⟨xp, xc, rfl, hd.sgLp (fun j => Nat.le_trans (gok_rowsN HXOK.out j) (by decide)), hb⟩
  clear ho hx hol hxl
  go_cut [6, 7] (fun bv tv wx => ∃ b xp xc, bv = .pointer (some ⟨b, 0, none⟩) ∧ tv = .bool true ∧ Box wx b 29 (.slice xp x.length xc) ∧ Gr wx (.agg #[.slice xp x.length xc]) x ∧ Below w8.heap.size w8 wx)
  case first =>
    refine wp_region_held_drew (S := (fun w' => w'.cell? ⟨bg, 0, none⟩ = some (.slice gp g.length gc))) (by kernel_rfl) ?_ (fun hHeld => ?_)
    · exact c8
    refine wpAnyH_take (i := 0) (v := .agg #[.slice gp g.length gc]) rfl (by kernel_rfl) (by kernel_rfl) (by kernel_rfl) (fun _ _ _ h => h) (Or.inl ⟨by rfl, ?_⟩) (by assumption) ?_
    · intro wz hSw; (try dsimp only at hSw); go_simp; try rfl
    try simp only [Act.put, List.getElem_toArray, List.getElem_cons_succ, List.getElem_cons_zero, List.setIfInBounds_toArray, List.set_cons_zero, List.set_cons_succ]
    refine wpAnyH_take (i := 1) (v := .slice lp m lc) rfl (by kernel_rfl) (by kernel_rfl) (by kernel_rfl) (fun _ _ _ h => h) (Or.inl ⟨by rfl, ?_⟩) (by assumption) ?_
    · intro wz hSw; (try dsimp only at hSw); go_simp; try rfl
    try simp only [Act.put, List.getElem_toArray, List.getElem_cons_succ, List.getElem_cons_zero, List.setIfInBounds_toArray, List.set_cons_zero, List.set_cons_succ]
    refine wpAnyH_ready (rs := [2, 8]) (by kernel_rfl) (by simp) ?_
    refine AllReadyH.cons rfl (fun K hK => ?_) (AllReadyH.cons rfl (fun K hK => ?_) AllReadyH.nil)
    · skip
      go_simp
      refine hK.out _ _ ?_ (fun hHeld => ?_)
      · exact (below_al1L w8 _).at' c8
      clear hK K
      try simp only [Act.put, List.getElem_toArray, List.getElem_cons_succ, List.getElem_cons_zero, List.setIfInBounds_toArray, List.set_cons_zero, List.set_cons_succ]
      refine wpAnyH_ready (rs := [3, 8]) (by kernel_rfl) (by simp) ?_
      refine AllReadyH.cons rfl (fun K hK => ?_) (AllReadyH.cons rfl (fun K hK => ?_) AllReadyH.nil)
      · skip
        go_simp
        go_at_call 74
        have HNR1 := (HNV.out w8).below (below_dN (Below.refl _ _) 1)
        refine (BOTH.out (World.drew (World.alloc w8 (.cells #[] 2))) _ (below_al1L w8 _) HNR1).mono ?_
        rintro e wa ⟨rv, rfl, hnr, hbq⟩
        have BWA : Below w8.heap.size w8 wa := (below_al1L w8 _).trans (hbq.mono (below_al1L w8 _).size)
        have HNR := Lib.hid hnr
        clear hnr hbq HNR1
        refine hK.out _ _ ?_ (fun hHeld => ?_)
        · exact BWA.at' c8
        clear hK K
        try simp only [Act.put, List.getElem_toArray, List.getElem_cons_succ, List.getElem_cons_zero, List.setIfInBounds_toArray, List.set_cons_zero, List.set_cons_succ]
        refine wpAnyH_ready (rs := [4, 8]) (by kernel_rfl) (by simp) ?_
        refine AllReadyH.cons rfl (fun K hK => ?_) (AllReadyH.cons rfl (fun K hK => ?_) AllReadyH.nil)
        · skip
          go_simp
          go_at_call 39
          refine (IND.out _ _ BWA HNR.out).mono ?_
          rintro e wb ⟨xp, xc, rfl, hsx, hbq⟩
          have BWB : Below w8.heap.size w8 wb := BWA.trans (hbq.mono BWA.size)
          have HSX := Lib.hid hsx
          clear hsx hbq
          refine hK.out _ _ ?_ (fun hHeld => ?_)
          · exact BWB.at' c8
          clear hK K
          try simp only [Act.put, List.getElem_toArray, List.getElem_cons_succ, List.getElem_cons_zero, List.setIfInBounds_toArray, List.set_cons_zero, List.set_cons_succ]
          refine wpAnyH_take (i := 5) (v := .tuple #[.agg #[.slice xp x.length xc], .bool true]) rfl (by kernel_rfl) (by kernel_rfl) (by kernel_rfl) (fun _ _ _ h => h) (Or.inl ⟨by rfl, ?_⟩) (by assumption) ?_
          · intro wz hSw; (try dsimp only at hSw); go_simp; try rfl
          try simp only [Act.put, List.getElem_toArray, List.getElem_cons_succ, List.getElem_cons_zero, List.setIfInBounds_toArray, List.set_cons_zero, List.set_cons_succ]
          refine wpAnyH_take (i := 6) (v := .agg #[.slice xp x.length xc]) rfl (by kernel_rfl) (by kernel_rfl) (by kernel_rfl) (fun _ _ _ h => h) (Or.inl ⟨by rfl, ?_⟩) (by assumption) ?_
          · intro wz hSw; (try dsimp only at hSw); go_simp; try rfl
          try simp only [Act.put, List.getElem_toArray, List.getElem_cons_succ, List.getElem_cons_zero, List.setIfInBounds_toArray, List.set_cons_zero, List.set_cons_succ]
          refine wpAnyH_take (i := 7) (v := .bool true) rfl (by kernel_rfl) (by kernel_rfl) (by kernel_rfl) (fun _ _ _ h => h) (Or.inl ⟨by rfl, ?_⟩) (by assumption) ?_
          · intro wz hSw; (try dsimp only at hSw); go_simp; try rfl
          try simp only [Act.put, List.getElem_toArray, List.getElem_cons_succ, List.getElem_cons_zero, List.setIfInBounds_toArray, List.set_cons_zero, List.set_cons_succ]
          refine wpAnyH_ready (rs := [8]) (by kernel_rfl) (by simp) ?_
          refine AllReadyH.cons rfl (fun K hK => ?_) AllReadyH.nil
          go_simp
          refine hK.out _ _ ?_ (fun hHeld => ?_)
          · exact (below_alloc _ _).at' (BWB.at' c8)
          clear hK K
          try simp only [Act.put, List.getElem_toArray, List.getElem_cons_succ, List.getElem_cons_zero, List.setIfInBounds_toArray, List.set_cons_zero, List.set_cons_succ]
          refine wpAnyH_ready (rs := [9]) (by kernel_rfl) (by simp) ?_
          refine AllReadyH.cons rfl (fun K hK => ?_) AllReadyH.nil
          go_simp
          refine hK.out _ _ ?_ (fun hHeld => ?_)
          · exact (below_alloc _ _).at' (BWB.at' c8)
          clear hK K
          try simp only [Act.put, List.getElem_toArray, List.getElem_cons_succ, List.getElem_cons_zero, List.setIfInBounds_toArray, List.set_cons_zero, List.set_cons_succ]
          refine wpAnyH_take (i := 10) (v := .bool true) rfl (by kernel_rfl) (by kernel_rfl) (by kernel_rfl) (fun _ _ _ h => h) (Or.inl ⟨by rfl, ?_⟩) (by assumption) ?_
          · intro wz hSw; (try dsimp only at hSw); go_simp; try rfl
          try simp only [Act.put, List.getElem_toArray, List.getElem_cons_succ, List.getElem_cons_zero, List.setIfInBounds_toArray, List.set_cons_zero, List.set_cons_succ]
          refine wpAnyH_done (by kernel_rfl) ?_ _
          go_wp2
          go_meet
          exact ⟨_, xp, xc, rfl, rfl, Box.new _ _ _, (HSX.out.below (below_alloc _ _)).gr (Nat.le_trans HXL.out (by decide)), BWB.alloc BWB.size _⟩
        · skip
          go_simp
          refine hK.out _ _ ?_ (fun hHeld => ?_)
          · exact (below_alloc _ _).at' (BWA.at' c8)
          clear hK K
          try simp only [Act.put, List.getElem_toArray, List.getElem_cons_succ, List.getElem_cons_zero, List.setIfInBounds_toArray, List.set_cons_zero, List.set_cons_succ]
          refine wpAnyH_ready (rs := [4]) (by kernel_rfl) (by simp) ?_
          refine AllReadyH.cons rfl (fun K hK => ?_) AllReadyH.nil
          go_simp
          go_at_call 39
          refine (IND.out (World.alloc wa (.cells #[.slice none 0 0] 29)) _ (BWA.alloc BWA.size _) (HNR.out.below (below_alloc _ _))).mono ?_
          rintro e wb ⟨xp, xc, rfl, hsx, hbq⟩
          have BWB : Below w8.heap.size w8 wb := (BWA.alloc BWA.size _).trans (hbq.mono (BWA.alloc BWA.size _).size)
          have BX2 := (Box.new wa _ _).keep hbq
          have hle := BWA.size
          have HSX := Lib.hid hsx
          have cbx := BX2.cell
          have fbx := BX2.free
          clear hsx hbq
          refine hK.out _ _ ?_ (fun hHeld => ?_)
          · exact BWB.at' c8
          clear hK K
          try simp only [Act.put, List.getElem_toArray, List.getElem_cons_succ, List.getElem_cons_zero, List.setIfInBounds_toArray, List.set_cons_zero, List.set_cons_succ]
          refine wpAnyH_take (i := 5) (v := .tuple #[.agg #[.slice xp x.length xc], .bool true]) rfl (by kernel_rfl) (by kernel_rfl) (by kernel_rfl) (fun _ _ _ h => h) (Or.inl ⟨by rfl, ?_⟩) (by assumption) ?_
          · intro wz hSw; (try dsimp only at hSw); go_simp; try rfl
          try simp only [Act.put, List.getElem_toArray, List.getElem_cons_succ, List.getElem_cons_zero, List.setIfInBounds_toArray, List.set_cons_zero, List.set_cons_succ]
          refine wpAnyH_take (i := 6) (v := .agg #[.slice xp x.length xc]) rfl (by kernel_rfl) (by kernel_rfl) (by kernel_rfl) (fun _ _ _ h => h) (Or.inl ⟨by rfl, ?_⟩) (by assumption) ?_
          · intro wz hSw; (try dsimp only at hSw); go_simp; try rfl
          try simp only [Act.put, List.getElem_toArray, List.getElem_cons_succ, List.getElem_cons_zero, List.setIfInBounds_toArray, List.set_cons_zero, List.set_cons_succ]
          refine wpAnyH_take (i := 7) (v := .bool true) rfl (by kernel_rfl) (by kernel_rfl) (by kernel_rfl) (fun _ _ _ h => h) (Or.inl ⟨by rfl, ?_⟩) (by assumption) ?_
          · intro wz hSw; (try dsimp only at hSw); go_simp; try rfl
          try simp only [Act.put, List.getElem_toArray, List.getElem_cons_succ, List.getElem_cons_zero, List.setIfInBounds_toArray, List.set_cons_zero, List.set_cons_succ]
          refine wpAnyH_ready (rs := [9]) (by kernel_rfl) (by simp) ?_
          refine AllReadyH.cons rfl (fun K hK => ?_) AllReadyH.nil
          go_simp
          refine hK.out _ _ ?_ (fun hHeld => ?_)
          · exact (below_setBoxL BWB BX2 hle _).at' c8
          clear hK K
          try simp only [Act.put, List.getElem_toArray, List.getElem_cons_succ, List.getElem_cons_zero, List.setIfInBounds_toArray, List.set_cons_zero, List.set_cons_succ]
          refine wpAnyH_take (i := 10) (v := .bool true) rfl (by kernel_rfl) (by kernel_rfl) (by kernel_rfl) (fun _ _ _ h => h) (Or.inl ⟨by rfl, ?_⟩) (by assumption) ?_
          · intro wz hSw; (try dsimp only at hSw); go_simp; try rfl
          try simp only [Act.put, List.getElem_toArray, List.getElem_cons_succ, List.getElem_cons_zero, List.setIfInBounds_toArray, List.set_cons_zero, List.set_cons_succ]
          refine wpAnyH_done (by kernel_rfl) ?_ _
          go_wp2
          go_meet
          exact ⟨_, xp, xc, rfl, rfl, BX2.set _, (HSX.out.setBox BX2 _).gr (Nat.le_trans HXL.out (by decide)), below_setBoxL BWB BX2 hle _⟩
      · skip
        go_simp
        refine hK.out _ _ ?_ (fun hHeld => ?_)
        · exact (below_al2L w8 _ _).at' c8
        clear hK K
        try simp only [Act.put, List.getElem_toArray, List.getElem_cons_succ, List.getElem_cons_zero, List.setIfInBounds_toArray, List.set_cons_zero, List.set_cons_succ]
        refine wpAnyH_ready (rs := [3]) (by kernel_rfl) (by simp) ?_
        refine AllReadyH.cons rfl (fun K hK => ?_) AllReadyH.nil
        go_simp
        go_at_call 74
        have HNR1 := ((HNV.out w8).below (below_alloc _ (.cells #[.slice none 0 0] 29))).below (below_dN (Below.refl _ _) 1)
        refine (BOTH.out (World.drew (World.alloc (World.alloc w8 (.cells #[] 2)) (.cells #[.slice none 0 0] 29))) _ (below_al2L w8 _ _) HNR1).mono ?_
        rintro e wa ⟨rv, rfl, hnr, hbq⟩
        have BWA : Below w8.heap.size w8 wa := (below_al2L w8 _ _).trans (hbq.mono (below_al2L w8 _ _).size)
        have BX1 := (Box.new (w8.alloc (.cells #[] 2)) _ _).drewL.keep hbq
        have hle := (below_alloc w8 (.cells #[] 2)).size
        rw [size_alloc] at BX1 hle
        have HNR := Lib.hid hnr
        clear hnr hbq HNR1
        refine hK.out _ _ ?_ (fun hHeld => ?_)
        · exact BWA.at' c8
        clear hK K
        try simp only [Act.put, List.getElem_toArray, List.getElem_cons_succ, List.getElem_cons_zero, List.setIfInBounds_toArray, List.set_cons_zero, List.set_cons_succ]
        refine wpAnyH_ready (rs := [4]) (by kernel_rfl) (by simp) ?_
        refine AllReadyH.cons rfl (fun K hK => ?_) AllReadyH.nil
        go_simp
        go_at_call 39
        refine (IND.out _ _ BWA HNR.out).mono ?_
        rintro e wb ⟨xp, xc, rfl, hsx, hbq⟩
        have BWB : Below w8.heap.size w8 wb := BWA.trans (hbq.mono BWA.size)
        have BX2 := BX1.keep hbq
        have HSX := Lib.hid hsx
        have cbx := BX2.cell
        have fbx := BX2.free
        clear hsx hbq
        refine hK.out _ _ ?_ (fun hHeld => ?_)
        · exact BWB.at' c8
        clear hK K
        try simp only [Act.put, List.getElem_toArray, List.getElem_cons_succ, List.getElem_cons_zero, List.setIfInBounds_toArray, List.set_cons_zero, List.set_cons_succ]
        refine wpAnyH_take (i := 5) (v := .tuple #[.agg #[.slice xp x.length xc], .bool true]) rfl (by kernel_rfl) (by kernel_rfl) (by kernel_rfl) (fun _ _ _ h => h) (Or.inl ⟨by rfl, ?_⟩) (by assumption) ?_
        · intro wz hSw; (try dsimp only at hSw); go_simp; try rfl
        try simp only [Act.put, List.getElem_toArray, List.getElem_cons_succ, List.getElem_cons_zero, List.setIfInBounds_toArray, List.set_cons_zero, List.set_cons_succ]
        refine wpAnyH_take (i := 6) (v := .agg #[.slice xp x.length xc]) rfl (by kernel_rfl) (by kernel_rfl) (by kernel_rfl) (fun _ _ _ h => h) (Or.inl ⟨by rfl, ?_⟩) (by assumption) ?_
        · intro wz hSw; (try dsimp only at hSw); go_simp; try rfl
        try simp only [Act.put, List.getElem_toArray, List.getElem_cons_succ, List.getElem_cons_zero, List.setIfInBounds_toArray, List.set_cons_zero, List.set_cons_succ]
        refine wpAnyH_take (i := 7) (v := .bool true) rfl (by kernel_rfl) (by kernel_rfl) (by kernel_rfl) (fun _ _ _ h => h) (Or.inl ⟨by rfl, ?_⟩) (by assumption) ?_
        · intro wz hSw; (try dsimp only at hSw); go_simp; try rfl
        try simp only [Act.put, List.getElem_toArray, List.getElem_cons_succ, List.getElem_cons_zero, List.setIfInBounds_toArray, List.set_cons_zero, List.set_cons_succ]
        refine wpAnyH_ready (rs := [9]) (by kernel_rfl) (by simp) ?_
        refine AllReadyH.cons rfl (fun K hK => ?_) AllReadyH.nil
        go_simp
        refine hK.out _ _ ?_ (fun hHeld => ?_)
        · exact (below_setBoxL BWB BX2 hle _).at' c8
        clear hK K
        try simp only [Act.put, List.getElem_toArray, List.getElem_cons_succ, List.getElem_cons_zero, List.setIfInBounds_toArray, List.set_cons_zero, List.set_cons_succ]
        refine wpAnyH_take (i := 10) (v := .bool true) rfl (by kernel_rfl) (by kernel_rfl) (by kernel_rfl) (fun _ _ _ h => h) (Or.inl ⟨by rfl, ?_⟩) (by assumption) ?_
        · intro wz hSw; (try dsimp only at hSw); go_simp; try rfl
        try simp only [Act.put, List.getElem_toArray, List.getElem_cons_succ, List.getElem_cons_zero, List.setIfInBounds_toArray, List.set_cons_zero, List.set_cons_succ]
        refine wpAnyH_done (by kernel_rfl) ?_ _
        go_wp2
        go_meet
        exact ⟨_, xp, xc, rfl, rfl, BX2.set _, (HSX.out.setBox BX2 _).gr (Nat.le_trans HXL.out (by decide)), below_setBoxL BWB BX2 hle _⟩
    · skip
      go_simp
      refine hK.out _ _ ?_ (fun hHeld => ?_)
      · exact (below_al1L w8 _).at' c8
      clear hK K
      try simp only [Act.put, List.getElem_toArray, List.getElem_cons_succ, List.getElem_cons_zero, List.setIfInBounds_toArray, List.set_cons_zero, List.set_cons_succ]
      refine wpAnyH_ready (rs := [2]) (by kernel_rfl) (by simp) ?_
      refine AllReadyH.cons rfl (fun K hK => ?_) AllReadyH.nil
      go_simp
      refine hK.out _ _ ?_ (fun hHeld => ?_)
      · exact (below_al2L w8 _ _).at' c8
      clear hK K
      try simp only [Act.put, List.getElem_toArray, List.getElem_cons_succ, List.getElem_cons_zero, List.setIfInBounds_toArray, List.set_cons_zero, List.set_cons_succ]
      refine wpAnyH_ready (rs := [3]) (by kernel_rfl) (by simp) ?_
      refine AllReadyH.cons rfl (fun K hK => ?_) AllReadyH.nil
      go_simp
      go_at_call 74
      have HNR1 := (HNV.out (w8.alloc (.cells #[.slice none 0 0] 29))).below (below_dN (Below.refl _ _) 1)
      rw [size_alloc] at HNR1
      refine (BOTH.out (World.drew (World.alloc (World.alloc w8 (.cells #[.slice none 0 0] 29)) (.cells #[] 2))) _ (below_al2L w8 _ _) HNR1).mono ?_
      rintro e wa ⟨rv, rfl, hnr, hbq⟩
      have BWA : Below w8.heap.size w8 wa := (below_al2L w8 _ _).trans (hbq.mono (below_al2L w8 _ _).size)
      have BX1 := ((Box.new w8 _ _).alloc _).drewL.keep hbq
      have hle := Nat.le_refl w8.heap.size
      have HNR := Lib.hid hnr
      clear hnr hbq HNR1
      refine hK.out _ _ ?_ (fun hHeld => ?_)
      · exact BWA.at' c8
      clear hK K
      try simp only [Act.put, List.getElem_toArray, List.getElem_cons_succ, List.getElem_cons_zero, List.setIfInBounds_toArray, List.set_cons_zero, List.set_cons_succ]
      refine wpAnyH_ready (rs := [4]) (by kernel_rfl) (by simp) ?_
      refine AllReadyH.cons rfl (fun K hK => ?_) AllReadyH.nil
      go_simp
      go_at_call 39
      refine (IND.out _ _ BWA HNR.out).mono ?_
      rintro e wb ⟨xp, xc, rfl, hsx, hbq⟩
      have BWB : Below w8.heap.size w8 wb := BWA.trans (hbq.mono BWA.size)
      have BX2 := BX1.keep hbq
      have HSX := Lib.hid hsx
      have cbx := BX2.cell
      have fbx := BX2.free
      clear hsx hbq
      refine hK.out _ _ ?_ (fun hHeld => ?_)
      · exact BWB.at' c8
      clear hK K
      try simp only [Act.put, List.getElem_toArray, List.getElem_cons_succ, List.getElem_cons_zero, List.setIfInBounds_toArray, List.set_cons_zero, List.set_cons_succ]
      refine wpAnyH_take (i := 5) (v := .tuple #[.agg #[.slice xp x.length xc], .bool true]) rfl (by kernel_rfl) (by kernel_rfl) (by kernel_rfl) (fun _ _ _ h => h) (Or.inl ⟨by rfl, ?_⟩) (by assumption) ?_
      · intro wz hSw; (try dsimp only at hSw); go_simp; try rfl
      try simp only [Act.put, List.getElem_toArray, List.getElem_cons_succ, List.getElem_cons_zero, List.setIfInBounds_toArray, List.set_cons_zero, List.set_cons_succ]
      refine wpAnyH_take (i := 6) (v := .agg #[.slice xp x.length xc]) rfl (by kernel_rfl) (by kernel_rfl) (by kernel_rfl) (fun _ _ _ h => h) (Or.inl ⟨by rfl, ?_⟩) (by assumption) ?_
      · intro wz hSw; (try dsimp only at hSw); go_simp; try rfl
      try simp only [Act.put, List.getElem_toArray, List.getElem_cons_succ, List.getElem_cons_zero, List.setIfInBounds_toArray, List.set_cons_zero, List.set_cons_succ]
      refine wpAnyH_take (i := 7) (v := .bool true) rfl (by kernel_rfl) (by kernel_rfl) (by kernel_rfl) (fun _ _ _ h => h) (Or.inl ⟨by rfl, ?_⟩) (by assumption) ?_
      · intro wz hSw; (try dsimp only at hSw); go_simp; try rfl
      try simp only [Act.put, List.getElem_toArray, List.getElem_cons_succ, List.getElem_cons_zero, List.setIfInBounds_toArray, List.set_cons_zero, List.set_cons_succ]
      refine wpAnyH_ready (rs := [9]) (by kernel_rfl) (by simp) ?_
      refine AllReadyH.cons rfl (fun K hK => ?_) AllReadyH.nil
      go_simp
      refine hK.out _ _ ?_ (fun hHeld => ?_)
      · exact (below_setBoxL BWB BX2 hle _).at' c8
      clear hK K
      try simp only [Act.put, List.getElem_toArray, List.getElem_cons_succ, List.getElem_cons_zero, List.setIfInBounds_toArray, List.set_cons_zero, List.set_cons_succ]
      refine wpAnyH_take (i := 10) (v := .bool true) rfl (by kernel_rfl) (by kernel_rfl) (by kernel_rfl) (fun _ _ _ h => h) (Or.inl ⟨by rfl, ?_⟩) (by assumption) ?_
      · intro wz hSw; (try dsimp only at hSw); go_simp; try rfl
      try simp only [Act.put, List.getElem_toArray, List.getElem_cons_succ, List.getElem_cons_zero, List.setIfInBounds_toArray, List.set_cons_zero, List.set_cons_succ]
      refine wpAnyH_done (by kernel_rfl) ?_ _
      go_wp2
      go_meet
      exact ⟨_, xp, xc, rfl, rfl, BX2.set _, (HSX.out.setBox BX2 _).gr (Nat.le_trans HXL.out (by decide)), below_setBoxL BWB BX2 hle _⟩
  case rest =>
  obtain ⟨b, xp, xc, rfl, rfl, hxb, hxg, hb9⟩ := hcut
  obtain ⟨w9, rfl⟩ : ∃ w9, w9 = wc := ⟨_, rfl⟩
  have HXB := Lib.hid hxb
  have HXG := Lib.hid hxg
  have HN9 := Lib.hid (HN8.out.below hb9)
  have c9 := hb9.at' c8
  have HG9 := Lib.hid (HG8.out.below hb9)
  have HW9 := Lib.hid (HW8.out.trans (hb9.mono HW8.out.size))
  have cx9 := hxb.cell
  clear hxb hxg hb9 c8 HG8 HN8 HW8 BOTH IND
  have MX : Hid (∀ wz, Gr wz (.agg #[.slice xp x.length xc]) x → Calls Tryd.prog 76 #[.agg #[.slice xp x.length xc]] wz fun e w' => e = .returned (.int .i64 (m : Int)) ∧ Below wz.heap.size wz w') := Lib.hid fun wz h => by
    have := implManyN_any _ x HXOK.out wz h
    rw [HXC.out] at this
    exact this
  go_wp2_with (first
    | (go_at_call 75; refine (implLoopOk_yes _ _ g L HOK.out HLL.out.1 _ HG9.out HN9.out).mono ?_; rintro e wA ⟨rfl, hbA⟩; have cxA := hbA.at' cx9; have HGA := Lib.hid (HXG.out.below hbA); have HWA := Lib.hid (HW9.out.trans (hbA.mono HW9.out.size)); clear hbA)
    | (go_at_call 76; refine (MX.out _ HGA.out).mono ?_; rintro e wB ⟨rfl, hbB⟩; have HWB := Lib.hid (HWA.out.trans (hbB.mono HWA.out.size)); clear hbB))
  go_ret
  exact ⟨rfl, HWB.out⟩

end Go.Proofs.YtkppbmfliejnmaaDoor
