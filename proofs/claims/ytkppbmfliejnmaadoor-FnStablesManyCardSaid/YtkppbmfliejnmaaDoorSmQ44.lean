/- Walk: the law FnStablesMany (printed by wip/mkSb.py). -/
import Derived.Test.YtkppbmfliejnmaaDoorSmQ29
import Derived.Test.YtkppbmfliejnmaaDoorSmQ42
import Derived.Test.YtkppbmfliejnmaaDoorSmQ21
import Derived.Test.YtkppbmfliejnmaaDoorSmQ33
import Derived.Test.YtkppbmfliejnmaaDoorSmQ32
import Derived.Test.YtkppbmfliejnmaaDoorSmQ43
namespace Go.Proofs.YtkppbmfliejnmaaDoor
open Go.RowKit

theorem below_setBox {B b : Nat} {a w : World} {T : TypeId} {v : Value} (h : Below B a w) (hx : Box w b T v) (hb : B ≤ b) (u : Value) : Below B a (w.setCell ⟨b, 0, none⟩ u) := h.setCell (p := ⟨b, 0, none⟩) hb u
theorem below_al1 (w : World) (o : Obj) : Below w.heap.size w (w.alloc o).drew := below_dN (below_alloc w o) 1
theorem below_al2 (w : World) (o o2 : Obj) : Below w.heap.size w ((w.alloc o).alloc o2).drew := below_dN (below_alloc2 w o o2) 1
theorem Box.drewB {w : World} {b : Nat} {T : TypeId} {v : Value} (h : Box w b T v) : Box w.drew b T v := h.keep (below_dN (Below.refl _ _) 1)
theorem ind_rows (g : List (List Int)) (l : List Nat) : (indL g (natInts l)).length = l.length := by unfold indL; rw [matG_length, natInts_length]

set_option maxRecDepth 100000 in
set_option maxHeartbeats 8000000 in
theorem lawStablesMany_any (v0 : Value) (bs : List Int) (W : World) (ha : ArgB W v0 bs) (hT : Tab W) :
    Calls Tryd.prog 4 #[v0] W fun e w' => e = .returned (.bool true) ∧ Below W.heap.size W w' := by
  obtain ⟨p, c, e0, _⟩ := id ha
  subst e0
  have HA := Lib.hid ha
  have HT := Lib.hid hT
  clear ha hT
  go_enter Tryd.func4, Tryd.ntmps4
  by_cases hbig : 4096 < bs.length
  · have hd := decide_eq_true hbig
    go_wp2_with (go_at_call 11; refine (big_any _ bs _ HA.out).mono ?_; rintro e w2 ⟨he, rfl⟩; rw [hd] at he; subst he)
    go_ret
    exact ⟨rfl, Below.refl _ _⟩
  have hd := decide_eq_false hbig
  have hl : bs.length ≤ 4096 := by omega
  clear hbig
  go_upto_region 5 with (first
    | (go_at_call 13; refine (w6Graph_any W db bs 8 _ rfl (by decide) (by decide) _ HD2.out HDL.out).mono ?_; rintro e w3 ⟨u, n, E, rfl, hn1, hn8, hse, hsg, hd3, hg3⟩; have HSE := Lib.hid hse; have HSG := Lib.hid hsg; have HD3 := Lib.hid hd3; have HG3 := Lib.hid hg3; obtain ⟨gp, gc, rfl⟩ := hsg.shape; clear hse hsg hd3 hg3)
    | (go_at_call 12; refine (roll_any _ bs _ hl _ HA.out).mono ?_; rintro e w2 ⟨db, rfl, hd2, hb2⟩; have HD2 := Lib.hid hd2; have HDL : Hid (db < w2.heap.size) := Lib.hid (by obtain ⟨_, _, _, h1, _⟩ := hd2.ex; exact h1.lt); clear hd2 hb2)
    | (go_at_call 11; refine (big_any _ bs _ HA.out).mono ?_; rintro e w1 ⟨he, rfl⟩; rw [hd] at he; subst he))
  obtain ⟨g, hga⟩ : ∃ g, g = matG n E := ⟨_, rfl⟩
  have hgl : g.length = n := by rw [hga, matG_length]
  have HOK : Hid (GOk g) := Lib.hid (by rw [hga]; exact gok_matG hn1 (by omega) HSE.out.1 HSE.out.2)
  rw [← hga] at HSG ⊢
  have hg8 : g.length ≤ 8 := by omega
  have hgp := HOK.out.pos
  obtain ⟨w4, hw4⟩ : ∃ w4, w4 = w3.alloc (.cells #[.slice gp g.length gc] 29) := ⟨_, rfl⟩
  rw [← hw4]
  have hb34 : Below w3.heap.size w3 w4 := by rw [hw4]; exact below_alloc _ _
  have HX4 : Hid (Box w4 w3.heap.size 29 (.slice gp g.length gc)) := Lib.hid (by rw [hw4]; exact Box.new _ _ _)
  have HG4 : Hid (Gr w4 (.agg #[.slice gp g.length gc]) g) := Lib.hid ((HSG.out.below hb34).gr (by omega))
  have HD4 := Lib.hid (HD3.out.keep hb34)
  have HDL4 : Hid (db < w4.heap.size) := Lib.hid (by have h1 := HDL.out; have h2 := HG3.out.size; have h3 := hb34.size; omega)
  have c4 := HX4.out.cell
  obtain ⟨bg, hbg⟩ : ∃ bg, bg = w3.heap.size := ⟨_, rfl⟩
  rw [← hbg] at HX4 c4 ⊢
  clear hga hw4 hb34 HSG hn8 hgl hn1 HD2 HDL HD3 HSE hd HG3 hbg
  go_upto_region 6 with (go_at_call 28; refine (below_any W db bs g.length _ rfl hgp (by omega) _ HD4.out).mono ?_; rintro e w5 ⟨v, rfl, hv, hd5, hg5⟩; have HD5 := Lib.hid hd5; have HX5 := Lib.hid (HX4.out.diced HD4.out hg5 (by decide)); have HG5 := Lib.hid (Gr.dicedR HD4.out hg5 HG4.out); have HDL5 : Hid (db < w5.heap.size) := Lib.hid (Nat.lt_of_lt_of_le HDL4.out hg5.size); clear hd5 hg5)
  have HT5 := Lib.hid (HT.out.keep HD5.out.bel)
  have hvi : (v : Int) < (g.length : Int) := by omega
  obtain ⟨M, hM⟩ : ∃ M, M = cntL (ofG g) (List.range g.length) := ⟨_, rfl⟩
  obtain ⟨A, hA⟩ : ∃ A, A = cntL (ofG g) (rstN [(v : Int)] g.length) := ⟨_, rfl⟩
  obtain ⟨B, hB⟩ : ∃ B, B = cntL (ofG g) (farL g v g.length) := ⟨_, rfl⟩
  have HMAB : Hid (M = A + B) := Lib.hid (by rw [hM, hA, hB]; exact cnt_with HOK.out hv)
  have hM256 : M ≤ 256 := by
    rw [hM]
    exact Nat.le_trans (cntL_le _ 8 _ (by rw [List.length_range]; omega)) (by decide)
  have hA256 : A ≤ 256 := by have := HMAB.out; omega
  have hB256 : B ≤ 256 := by have := HMAB.out; omega
  have HA0 := Lib.hid hA
  have HB0 := Lib.hid hB
  clear hA hB
  have MANY : Hid (∀ (wz : World), Gr wz (.agg #[.slice gp g.length gc]) g → Tab wz → Calls Tryd.prog 29 #[.agg #[.slice gp g.length gc]] wz fun e w' => e = .returned (.int .i64 (M : Int)) ∧ Below wz.heap.size wz w') := Lib.hid fun wz h1 h2 => by rw [hM]; exact implStablesMany_any _ g wz h1 HOK.out h2
  have IND : Hid (∀ (wz : World) (lv : Value) (l : List Nat), l.Pairwise (· < ·) → (∀ x ∈ l, x < g.length) → 1 ≤ l.length → Gr wz (.agg #[.slice gp g.length gc]) g → Nums wz 2 .i64 lv (natInts l) → Calls Tryd.prog 30 #[.agg #[.slice gp g.length gc], lv] wz fun e w' => ∃ xp xc, e = .returned (.tuple #[.agg #[.slice xp (indL g (natInts l)).length xc], .bool true]) ∧ SG w' wz.heap.size (.agg #[.slice xp (indL g (natInts l)).length xc]) (indL g (natInts l)) ∧ Below wz.heap.size wz w') := Lib.hid fun wz lv l h1 h2 h3 hz hn => by
    refine (specInduced_yes _ lv g (natInts l) HOK.out (set_nat h1 h2) (fun e => by rw [← natInts_length l, e] at h3; simp at h3) wz hz hn).mono ?_
    rintro e w' ⟨u, rfl, hs, hb⟩
    obtain ⟨xp, xc, rfl⟩ := hs.shape
    exact ⟨xp, xc, rfl, hs, hb⟩
  have CNT : Hid (∀ (l : List Nat) (wz : World) (xp : Option Addr) (xc : Nat), l.Pairwise (· < ·) → (∀ x ∈ l, x < g.length) → 1 ≤ l.length → l.length ≤ 8 → Gr wz (.agg #[.slice xp (indL g (natInts l)).length xc]) (indL g (natInts l)) → Tab wz → Calls Tryd.prog 29 #[.agg #[.slice xp (indL g (natInts l)).length xc]] wz fun e w' => e = .returned (.int .i64 ((cntL (ofG g) l : Nat) : Int)) ∧ Below wz.heap.size wz w') := Lib.hid fun l wz xp xc h1 h2 h3 h4 hz ht => by
    have := implStablesMany_any _ (indL g (natInts l)) wz hz (indL_gok HOK.out h2 h3 (by omega)) ht
    rw [ind_rows, cnt_ind] at this
    rw [ind_rows]
    exact this
  clear hM
  have c5 := HX5.out.cell
  go_upto_region 7 with (go_at_call 29; refine (MANY.out _ HG5.out HT5.out).mono ?_; rintro e w6 ⟨rfl, hb6⟩)
  have HX6 := Lib.hid (HX5.out.keep hb6)
  have HG6 := Lib.hid (HG5.out.below hb6)
  have HD6 := Lib.hid (HD5.out.keep hb6)
  have HT6 := Lib.hid (HT5.out.keep hb6)
  have HDL6 : Hid (db < w6.heap.size) := Lib.hid (Nat.lt_of_lt_of_le HDL5.out hb6.size)
  have c6 := HX6.out.cell
  clear HX5 HG5 HD5 HT5 HDL5 MANY HX4 HG4 HD4 HDL4 c4 c5 hb6
  have HAE := HA0
  have HBE := HB0
  clear HA0 HB0
  have HNV : Hid (∀ wz : World, Nums (wz.alloc (.cells #[.int .i64 (v : Int)] 2)) 2 .i64 (.slice (some ⟨wz.heap.size, 0, none⟩) 1 1) [(v : Int)]) := Lib.hid fun wz => Nums.of_owns (n := 1) (xs := [(v : Int)]) (World.ownsRow_lit wz #[.int .i64 (v : Int)] 1 (base := wz.heap.size) (e := 2) (size := 1) (Nat.le_refl _) (by decide) (by simp)) rfl (by decide)
  go_upto_if 38 with fail
  go_cut [7] (fun s wx => s = .int .i64 (A : Int) ∧ Below w6.heap.size w6 wx)
  case first =>
    by_cases h1 : 1 < g.length
    · have h1i : (1 : Int) < (g.length : Int) := by omega
      obtain ⟨l, hl9⟩ : ∃ l, l = rstN [(v : Int)] g.length := ⟨_, rfl⟩
      have HLE := Lib.hid hl9
      have HL1 : Hid (l.Pairwise (· < ·)) := Lib.hid (by rw [hl9]; exact rstN_rising _ _)
      have HL2 : Hid (∀ x ∈ l, x < g.length) := Lib.hid (by rw [hl9]; exact rstN_lt)
      have HL3 : Hid (1 ≤ l.length) := Lib.hid (by rw [hl9]; exact rst_one_pos h1)
      have hl8 : l.length ≤ 8 := by rw [hl9]; exact Nat.le_trans (rstN_len _ _) hg8
      have RSTV : Hid (∀ (wz : World) (lv : Value), Nums wz 2 .i64 lv [(v : Int)] → Calls Tryd.prog 21 #[.agg #[.slice gp g.length gc], lv] wz fun e w' => ∃ rv, e = .returned rv ∧ Nums w' 2 .i64 rv (natInts l) ∧ Below wz.heap.size wz w') := Lib.hid fun wz lv h => by
        refine (w6Rest_any gp g.length gc _ _ (by omega) wz h).mono ?_
        rintro e w' ⟨rv, rfl, ho, hb⟩
        rw [hl9]
        exact ⟨rv, rfl, Nums.of_owns ho (by rw [natInts_length]) (Nat.le_trans (rstN_len _ _) (by omega)), hb⟩
      clear hl9 h1
      go_upto_region 9 with fail
      go_cut [8] (fun bv wx => ∃ b xp xc, bv = .pointer (some ⟨b, 0, none⟩) ∧ Box wx b 29 (.slice xp (indL g (natInts l)).length xc) ∧ Gr wx (.agg #[.slice xp (indL g (natInts l)).length xc]) (indL g (natInts l)) ∧ Below w6.heap.size w6 wx)
      case first =>
        have IND2 : Hid (∀ (wz : World) (lv : Value), Gr wz (.agg #[.slice gp g.length gc]) g → Nums wz 2 .i64 lv (natInts l) → Calls Tryd.prog 30 #[.agg #[.slice gp g.length gc], lv] wz fun e w' => ∃ xp xc, e = .returned (.tuple #[.agg #[.slice xp (indL g (natInts l)).length xc], .bool true]) ∧ SG w' wz.heap.size (.agg #[.slice xp (indL g (natInts l)).length xc]) (indL g (natInts l)) ∧ Below wz.heap.size wz w') := Lib.hid fun wz lv hz hn => IND.out wz lv l HL1.out HL2.out HL3.out hz hn
        have HXL : Hid ((indL g (natInts l)).length ≤ 8) := Lib.hid (by rw [ind_rows]; exact hl8)
        generalize indL g (natInts l) = x at *
        refine wp_region_held_drew (S := (fun w' => w'.cell? ⟨bg, 0, none⟩ = some (.slice gp g.length gc))) (by kernel_rfl) ?_ (fun hHeld => ?_)
        · exact c6
        refine wpAnyH_take (i := 0) (v := .agg #[.slice gp g.length gc]) rfl (by kernel_rfl) (by kernel_rfl) (by kernel_rfl) (fun _ _ _ h => h) (Or.inl ⟨by rfl, ?_⟩) (by assumption) ?_
        · intro wz hSw; (try dsimp only at hSw); go_simp; try rfl
        try simp only [Act.put, List.getElem_toArray, List.getElem_cons_succ, List.getElem_cons_zero, List.setIfInBounds_toArray, List.set_cons_zero, List.set_cons_succ]
        refine wpAnyH_take (i := 1) (v := .agg #[.slice gp g.length gc]) rfl (by kernel_rfl) (by kernel_rfl) (by kernel_rfl) (fun _ _ _ h => h) (Or.inl ⟨by rfl, ?_⟩) (by assumption) ?_
        · intro wz hSw; (try dsimp only at hSw); go_simp; try rfl
        try simp only [Act.put, List.getElem_toArray, List.getElem_cons_succ, List.getElem_cons_zero, List.setIfInBounds_toArray, List.set_cons_zero, List.set_cons_succ]
        refine wpAnyH_take (i := 2) (v := .int .i64 (v : Int)) rfl (by kernel_rfl) (by kernel_rfl) (by kernel_rfl) (fun _ _ _ h => h) (Or.inl ⟨by rfl, ?_⟩) (by assumption) ?_
        · intro wz hSw; (try dsimp only at hSw); go_simp; try rfl
        try simp only [Act.put, List.getElem_toArray, List.getElem_cons_succ, List.getElem_cons_zero, List.setIfInBounds_toArray, List.set_cons_zero, List.set_cons_succ]
        refine wpAnyH_ready (rs := [3, 9]) (by kernel_rfl) (by simp) ?_
        refine AllReadyH.cons rfl (fun K hK => ?_) (AllReadyH.cons rfl (fun K hK => ?_) AllReadyH.nil)
        · skip
          go_simp
          refine hK.out _ _ ?_ (fun hHeld => ?_)
          · exact (below_al1 w6 _).at' c6
          clear hK K
          try simp only [Act.put, List.getElem_toArray, List.getElem_cons_succ, List.getElem_cons_zero, List.setIfInBounds_toArray, List.set_cons_zero, List.set_cons_succ]
          refine wpAnyH_ready (rs := [4, 9]) (by kernel_rfl) (by simp) ?_
          refine AllReadyH.cons rfl (fun K hK => ?_) (AllReadyH.cons rfl (fun K hK => ?_) AllReadyH.nil)
          · skip
            go_simp
            go_at_call 21
            have HNR1 := (HNV.out w6).below (below_dN (Below.refl _ _) 1)
            refine (RSTV.out (World.drew (World.alloc w6 (.cells #[.int .i64 (v : Int)] 2))) _ HNR1).mono ?_
            rintro e wa ⟨rv, rfl, hnr, hbq⟩
            have BWA : Below w6.heap.size w6 wa := (below_al1 w6 _).trans (hbq.mono (below_al1 w6 _).size)
            have HNR := Lib.hid hnr
            clear hnr hbq HNR1
            refine hK.out _ _ ?_ (fun hHeld => ?_)
            · exact BWA.at' c6
            clear hK K
            try simp only [Act.put, List.getElem_toArray, List.getElem_cons_succ, List.getElem_cons_zero, List.setIfInBounds_toArray, List.set_cons_zero, List.set_cons_succ]
            refine wpAnyH_ready (rs := [5, 9]) (by kernel_rfl) (by simp) ?_
            refine AllReadyH.cons rfl (fun K hK => ?_) (AllReadyH.cons rfl (fun K hK => ?_) AllReadyH.nil)
            · skip
              go_simp
              go_at_call 30
              refine (IND2.out _ _ (HG6.out.below BWA) HNR.out).mono ?_
              rintro e wb ⟨xp, xc, rfl, hsx, hbq⟩
              have BWB : Below w6.heap.size w6 wb := BWA.trans (hbq.mono BWA.size)
              have HSX := Lib.hid hsx
              clear hsx hbq
              refine hK.out _ _ ?_ (fun hHeld => ?_)
              · exact BWB.at' c6
              clear hK K
              try simp only [Act.put, List.getElem_toArray, List.getElem_cons_succ, List.getElem_cons_zero, List.setIfInBounds_toArray, List.set_cons_zero, List.set_cons_succ]
              refine wpAnyH_take (i := 6) (v := .tuple #[.agg #[.slice xp x.length xc], .bool true]) rfl (by kernel_rfl) (by kernel_rfl) (by kernel_rfl) (fun _ _ _ h => h) (Or.inl ⟨by rfl, ?_⟩) (by assumption) ?_
              · intro wz hSw; (try dsimp only at hSw); go_simp; try rfl
              try simp only [Act.put, List.getElem_toArray, List.getElem_cons_succ, List.getElem_cons_zero, List.setIfInBounds_toArray, List.set_cons_zero, List.set_cons_succ]
              refine wpAnyH_take (i := 7) (v := .agg #[.slice xp x.length xc]) rfl (by kernel_rfl) (by kernel_rfl) (by kernel_rfl) (fun _ _ _ h => h) (Or.inl ⟨by rfl, ?_⟩) (by assumption) ?_
              · intro wz hSw; (try dsimp only at hSw); go_simp; try rfl
              try simp only [Act.put, List.getElem_toArray, List.getElem_cons_succ, List.getElem_cons_zero, List.setIfInBounds_toArray, List.set_cons_zero, List.set_cons_succ]
              refine wpAnyH_take (i := 8) (v := .bool true) rfl (by kernel_rfl) (by kernel_rfl) (by kernel_rfl) (fun _ _ _ h => h) (Or.inl ⟨by rfl, ?_⟩) (by assumption) ?_
              · intro wz hSw; (try dsimp only at hSw); go_simp; try rfl
              try simp only [Act.put, List.getElem_toArray, List.getElem_cons_succ, List.getElem_cons_zero, List.setIfInBounds_toArray, List.set_cons_zero, List.set_cons_succ]
              refine wpAnyH_ready (rs := [9]) (by kernel_rfl) (by simp) ?_
              refine AllReadyH.cons rfl (fun K hK => ?_) AllReadyH.nil
              go_simp
              refine hK.out _ _ ?_ (fun hHeld => ?_)
              · exact (below_alloc _ _).at' (BWB.at' c6)
              clear hK K
              try simp only [Act.put, List.getElem_toArray, List.getElem_cons_succ, List.getElem_cons_zero, List.setIfInBounds_toArray, List.set_cons_zero, List.set_cons_succ]
              refine wpAnyH_ready (rs := [10]) (by kernel_rfl) (by simp) ?_
              refine AllReadyH.cons rfl (fun K hK => ?_) AllReadyH.nil
              go_simp
              refine hK.out _ _ ?_ (fun hHeld => ?_)
              · exact (below_alloc _ _).at' (BWB.at' c6)
              clear hK K
              try simp only [Act.put, List.getElem_toArray, List.getElem_cons_succ, List.getElem_cons_zero, List.setIfInBounds_toArray, List.set_cons_zero, List.set_cons_succ]
              refine wpAnyH_take (i := 11) (v := .bool true) rfl (by kernel_rfl) (by kernel_rfl) (by kernel_rfl) (fun _ _ _ h => h) (Or.inl ⟨by rfl, ?_⟩) (by assumption) ?_
              · intro wz hSw; (try dsimp only at hSw); go_simp; try rfl
              try simp only [Act.put, List.getElem_toArray, List.getElem_cons_succ, List.getElem_cons_zero, List.setIfInBounds_toArray, List.set_cons_zero, List.set_cons_succ]
              refine wpAnyH_done (by kernel_rfl) ?_ _
              go_wp2
              go_meet
              exact ⟨_, xp, xc, rfl, Box.new _ _ _, (HSX.out.below (below_alloc _ _)).gr (Nat.le_trans HXL.out (by decide)), BWB.alloc BWB.size _⟩
            · skip
              go_simp
              refine hK.out _ _ ?_ (fun hHeld => ?_)
              · exact (below_alloc _ _).at' (BWA.at' c6)
              clear hK K
              try simp only [Act.put, List.getElem_toArray, List.getElem_cons_succ, List.getElem_cons_zero, List.setIfInBounds_toArray, List.set_cons_zero, List.set_cons_succ]
              refine wpAnyH_ready (rs := [5]) (by kernel_rfl) (by simp) ?_
              refine AllReadyH.cons rfl (fun K hK => ?_) AllReadyH.nil
              go_simp
              go_at_call 30
              refine (IND2.out (World.alloc wa (.cells #[.slice none 0 0] 29)) _ (HG6.out.below (BWA.alloc BWA.size _)) (HNR.out.below (below_alloc _ _))).mono ?_
              rintro e wb ⟨xp, xc, rfl, hsx, hbq⟩
              have BWB : Below w6.heap.size w6 wb := (BWA.alloc BWA.size _).trans (hbq.mono (BWA.alloc BWA.size _).size)
              have BX2 := (Box.new wa _ _).keep hbq
              have hle := BWA.size
              have HSX := Lib.hid hsx
              have cbx := BX2.cell
              have fbx := BX2.free
              clear hsx hbq
              refine hK.out _ _ ?_ (fun hHeld => ?_)
              · exact BWB.at' c6
              clear hK K
              try simp only [Act.put, List.getElem_toArray, List.getElem_cons_succ, List.getElem_cons_zero, List.setIfInBounds_toArray, List.set_cons_zero, List.set_cons_succ]
              refine wpAnyH_take (i := 6) (v := .tuple #[.agg #[.slice xp x.length xc], .bool true]) rfl (by kernel_rfl) (by kernel_rfl) (by kernel_rfl) (fun _ _ _ h => h) (Or.inl ⟨by rfl, ?_⟩) (by assumption) ?_
              · intro wz hSw; (try dsimp only at hSw); go_simp; try rfl
              try simp only [Act.put, List.getElem_toArray, List.getElem_cons_succ, List.getElem_cons_zero, List.setIfInBounds_toArray, List.set_cons_zero, List.set_cons_succ]
              refine wpAnyH_take (i := 7) (v := .agg #[.slice xp x.length xc]) rfl (by kernel_rfl) (by kernel_rfl) (by kernel_rfl) (fun _ _ _ h => h) (Or.inl ⟨by rfl, ?_⟩) (by assumption) ?_
              · intro wz hSw; (try dsimp only at hSw); go_simp; try rfl
              try simp only [Act.put, List.getElem_toArray, List.getElem_cons_succ, List.getElem_cons_zero, List.setIfInBounds_toArray, List.set_cons_zero, List.set_cons_succ]
              refine wpAnyH_take (i := 8) (v := .bool true) rfl (by kernel_rfl) (by kernel_rfl) (by kernel_rfl) (fun _ _ _ h => h) (Or.inl ⟨by rfl, ?_⟩) (by assumption) ?_
              · intro wz hSw; (try dsimp only at hSw); go_simp; try rfl
              try simp only [Act.put, List.getElem_toArray, List.getElem_cons_succ, List.getElem_cons_zero, List.setIfInBounds_toArray, List.set_cons_zero, List.set_cons_succ]
              refine wpAnyH_ready (rs := [10]) (by kernel_rfl) (by simp) ?_
              refine AllReadyH.cons rfl (fun K hK => ?_) AllReadyH.nil
              go_simp
              refine hK.out _ _ ?_ (fun hHeld => ?_)
              · exact (below_setBox BWB BX2 hle _).at' c6
              clear hK K
              try simp only [Act.put, List.getElem_toArray, List.getElem_cons_succ, List.getElem_cons_zero, List.setIfInBounds_toArray, List.set_cons_zero, List.set_cons_succ]
              refine wpAnyH_take (i := 11) (v := .bool true) rfl (by kernel_rfl) (by kernel_rfl) (by kernel_rfl) (fun _ _ _ h => h) (Or.inl ⟨by rfl, ?_⟩) (by assumption) ?_
              · intro wz hSw; (try dsimp only at hSw); go_simp; try rfl
              try simp only [Act.put, List.getElem_toArray, List.getElem_cons_succ, List.getElem_cons_zero, List.setIfInBounds_toArray, List.set_cons_zero, List.set_cons_succ]
              refine wpAnyH_done (by kernel_rfl) ?_ _
              go_wp2
              go_meet
              exact ⟨_, xp, xc, rfl, BX2.set _, (HSX.out.setBox BX2 _).gr (Nat.le_trans HXL.out (by decide)), below_setBox BWB BX2 hle _⟩
          · skip
            go_simp
            refine hK.out _ _ ?_ (fun hHeld => ?_)
            · exact (below_al2 w6 _ _).at' c6
            clear hK K
            try simp only [Act.put, List.getElem_toArray, List.getElem_cons_succ, List.getElem_cons_zero, List.setIfInBounds_toArray, List.set_cons_zero, List.set_cons_succ]
            refine wpAnyH_ready (rs := [4]) (by kernel_rfl) (by simp) ?_
            refine AllReadyH.cons rfl (fun K hK => ?_) AllReadyH.nil
            go_simp
            go_at_call 21
            have HNR1 := ((HNV.out w6).below (below_alloc _ (.cells #[.slice none 0 0] 29))).below (below_dN (Below.refl _ _) 1)
            refine (RSTV.out (World.drew (World.alloc (World.alloc w6 (.cells #[.int .i64 (v : Int)] 2)) (.cells #[.slice none 0 0] 29))) _ HNR1).mono ?_
            rintro e wa ⟨rv, rfl, hnr, hbq⟩
            have BWA : Below w6.heap.size w6 wa := (below_al2 w6 _ _).trans (hbq.mono (below_al2 w6 _ _).size)
            have BX1 := (Box.new (w6.alloc (.cells #[.int .i64 (v : Int)] 2)) _ _).drewB.keep hbq
            have hle := (below_alloc w6 (.cells #[.int .i64 (v : Int)] 2)).size
            rw [size_alloc] at BX1 hle
            have HNR := Lib.hid hnr
            clear hnr hbq HNR1
            refine hK.out _ _ ?_ (fun hHeld => ?_)
            · exact BWA.at' c6
            clear hK K
            try simp only [Act.put, List.getElem_toArray, List.getElem_cons_succ, List.getElem_cons_zero, List.setIfInBounds_toArray, List.set_cons_zero, List.set_cons_succ]
            refine wpAnyH_ready (rs := [5]) (by kernel_rfl) (by simp) ?_
            refine AllReadyH.cons rfl (fun K hK => ?_) AllReadyH.nil
            go_simp
            go_at_call 30
            refine (IND2.out _ _ (HG6.out.below BWA) HNR.out).mono ?_
            rintro e wb ⟨xp, xc, rfl, hsx, hbq⟩
            have BWB : Below w6.heap.size w6 wb := BWA.trans (hbq.mono BWA.size)
            have BX2 := BX1.keep hbq
            have HSX := Lib.hid hsx
            have cbx := BX2.cell
            have fbx := BX2.free
            clear hsx hbq
            refine hK.out _ _ ?_ (fun hHeld => ?_)
            · exact BWB.at' c6
            clear hK K
            try simp only [Act.put, List.getElem_toArray, List.getElem_cons_succ, List.getElem_cons_zero, List.setIfInBounds_toArray, List.set_cons_zero, List.set_cons_succ]
            refine wpAnyH_take (i := 6) (v := .tuple #[.agg #[.slice xp x.length xc], .bool true]) rfl (by kernel_rfl) (by kernel_rfl) (by kernel_rfl) (fun _ _ _ h => h) (Or.inl ⟨by rfl, ?_⟩) (by assumption) ?_
            · intro wz hSw; (try dsimp only at hSw); go_simp; try rfl
            try simp only [Act.put, List.getElem_toArray, List.getElem_cons_succ, List.getElem_cons_zero, List.setIfInBounds_toArray, List.set_cons_zero, List.set_cons_succ]
            refine wpAnyH_take (i := 7) (v := .agg #[.slice xp x.length xc]) rfl (by kernel_rfl) (by kernel_rfl) (by kernel_rfl) (fun _ _ _ h => h) (Or.inl ⟨by rfl, ?_⟩) (by assumption) ?_
            · intro wz hSw; (try dsimp only at hSw); go_simp; try rfl
            try simp only [Act.put, List.getElem_toArray, List.getElem_cons_succ, List.getElem_cons_zero, List.setIfInBounds_toArray, List.set_cons_zero, List.set_cons_succ]
            refine wpAnyH_take (i := 8) (v := .bool true) rfl (by kernel_rfl) (by kernel_rfl) (by kernel_rfl) (fun _ _ _ h => h) (Or.inl ⟨by rfl, ?_⟩) (by assumption) ?_
            · intro wz hSw; (try dsimp only at hSw); go_simp; try rfl
            try simp only [Act.put, List.getElem_toArray, List.getElem_cons_succ, List.getElem_cons_zero, List.setIfInBounds_toArray, List.set_cons_zero, List.set_cons_succ]
            refine wpAnyH_ready (rs := [10]) (by kernel_rfl) (by simp) ?_
            refine AllReadyH.cons rfl (fun K hK => ?_) AllReadyH.nil
            go_simp
            refine hK.out _ _ ?_ (fun hHeld => ?_)
            · exact (below_setBox BWB BX2 hle _).at' c6
            clear hK K
            try simp only [Act.put, List.getElem_toArray, List.getElem_cons_succ, List.getElem_cons_zero, List.setIfInBounds_toArray, List.set_cons_zero, List.set_cons_succ]
            refine wpAnyH_take (i := 11) (v := .bool true) rfl (by kernel_rfl) (by kernel_rfl) (by kernel_rfl) (fun _ _ _ h => h) (Or.inl ⟨by rfl, ?_⟩) (by assumption) ?_
            · intro wz hSw; (try dsimp only at hSw); go_simp; try rfl
            try simp only [Act.put, List.getElem_toArray, List.getElem_cons_succ, List.getElem_cons_zero, List.setIfInBounds_toArray, List.set_cons_zero, List.set_cons_succ]
            refine wpAnyH_done (by kernel_rfl) ?_ _
            go_wp2
            go_meet
            exact ⟨_, xp, xc, rfl, BX2.set _, (HSX.out.setBox BX2 _).gr (Nat.le_trans HXL.out (by decide)), below_setBox BWB BX2 hle _⟩
        · skip
          go_simp
          refine hK.out _ _ ?_ (fun hHeld => ?_)
          · exact (below_al1 w6 _).at' c6
          clear hK K
          try simp only [Act.put, List.getElem_toArray, List.getElem_cons_succ, List.getElem_cons_zero, List.setIfInBounds_toArray, List.set_cons_zero, List.set_cons_succ]
          refine wpAnyH_ready (rs := [3]) (by kernel_rfl) (by simp) ?_
          refine AllReadyH.cons rfl (fun K hK => ?_) AllReadyH.nil
          go_simp
          refine hK.out _ _ ?_ (fun hHeld => ?_)
          · exact (below_al2 w6 _ _).at' c6
          clear hK K
          try simp only [Act.put, List.getElem_toArray, List.getElem_cons_succ, List.getElem_cons_zero, List.setIfInBounds_toArray, List.set_cons_zero, List.set_cons_succ]
          refine wpAnyH_ready (rs := [4]) (by kernel_rfl) (by simp) ?_
          refine AllReadyH.cons rfl (fun K hK => ?_) AllReadyH.nil
          go_simp
          go_at_call 21
          have HNR1 := (HNV.out (w6.alloc (.cells #[.slice none 0 0] 29))).below (below_dN (Below.refl _ _) 1)
          rw [size_alloc] at HNR1
          refine (RSTV.out (World.drew (World.alloc (World.alloc w6 (.cells #[.slice none 0 0] 29)) (.cells #[.int .i64 (v : Int)] 2))) _ HNR1).mono ?_
          rintro e wa ⟨rv, rfl, hnr, hbq⟩
          have BWA : Below w6.heap.size w6 wa := (below_al2 w6 _ _).trans (hbq.mono (below_al2 w6 _ _).size)
          have BX1 := ((Box.new w6 _ _).alloc _).drewB.keep hbq
          have hle := Nat.le_refl w6.heap.size
          have HNR := Lib.hid hnr
          clear hnr hbq HNR1
          refine hK.out _ _ ?_ (fun hHeld => ?_)
          · exact BWA.at' c6
          clear hK K
          try simp only [Act.put, List.getElem_toArray, List.getElem_cons_succ, List.getElem_cons_zero, List.setIfInBounds_toArray, List.set_cons_zero, List.set_cons_succ]
          refine wpAnyH_ready (rs := [5]) (by kernel_rfl) (by simp) ?_
          refine AllReadyH.cons rfl (fun K hK => ?_) AllReadyH.nil
          go_simp
          go_at_call 30
          refine (IND2.out _ _ (HG6.out.below BWA) HNR.out).mono ?_
          rintro e wb ⟨xp, xc, rfl, hsx, hbq⟩
          have BWB : Below w6.heap.size w6 wb := BWA.trans (hbq.mono BWA.size)
          have BX2 := BX1.keep hbq
          have HSX := Lib.hid hsx
          have cbx := BX2.cell
          have fbx := BX2.free
          clear hsx hbq
          refine hK.out _ _ ?_ (fun hHeld => ?_)
          · exact BWB.at' c6
          clear hK K
          try simp only [Act.put, List.getElem_toArray, List.getElem_cons_succ, List.getElem_cons_zero, List.setIfInBounds_toArray, List.set_cons_zero, List.set_cons_succ]
          refine wpAnyH_take (i := 6) (v := .tuple #[.agg #[.slice xp x.length xc], .bool true]) rfl (by kernel_rfl) (by kernel_rfl) (by kernel_rfl) (fun _ _ _ h => h) (Or.inl ⟨by rfl, ?_⟩) (by assumption) ?_
          · intro wz hSw; (try dsimp only at hSw); go_simp; try rfl
          try simp only [Act.put, List.getElem_toArray, List.getElem_cons_succ, List.getElem_cons_zero, List.setIfInBounds_toArray, List.set_cons_zero, List.set_cons_succ]
          refine wpAnyH_take (i := 7) (v := .agg #[.slice xp x.length xc]) rfl (by kernel_rfl) (by kernel_rfl) (by kernel_rfl) (fun _ _ _ h => h) (Or.inl ⟨by rfl, ?_⟩) (by assumption) ?_
          · intro wz hSw; (try dsimp only at hSw); go_simp; try rfl
          try simp only [Act.put, List.getElem_toArray, List.getElem_cons_succ, List.getElem_cons_zero, List.setIfInBounds_toArray, List.set_cons_zero, List.set_cons_succ]
          refine wpAnyH_take (i := 8) (v := .bool true) rfl (by kernel_rfl) (by kernel_rfl) (by kernel_rfl) (fun _ _ _ h => h) (Or.inl ⟨by rfl, ?_⟩) (by assumption) ?_
          · intro wz hSw; (try dsimp only at hSw); go_simp; try rfl
          try simp only [Act.put, List.getElem_toArray, List.getElem_cons_succ, List.getElem_cons_zero, List.setIfInBounds_toArray, List.set_cons_zero, List.set_cons_succ]
          refine wpAnyH_ready (rs := [10]) (by kernel_rfl) (by simp) ?_
          refine AllReadyH.cons rfl (fun K hK => ?_) AllReadyH.nil
          go_simp
          refine hK.out _ _ ?_ (fun hHeld => ?_)
          · exact (below_setBox BWB BX2 hle _).at' c6
          clear hK K
          try simp only [Act.put, List.getElem_toArray, List.getElem_cons_succ, List.getElem_cons_zero, List.setIfInBounds_toArray, List.set_cons_zero, List.set_cons_succ]
          refine wpAnyH_take (i := 11) (v := .bool true) rfl (by kernel_rfl) (by kernel_rfl) (by kernel_rfl) (fun _ _ _ h => h) (Or.inl ⟨by rfl, ?_⟩) (by assumption) ?_
          · intro wz hSw; (try dsimp only at hSw); go_simp; try rfl
          try simp only [Act.put, List.getElem_toArray, List.getElem_cons_succ, List.getElem_cons_zero, List.setIfInBounds_toArray, List.set_cons_zero, List.set_cons_succ]
          refine wpAnyH_done (by kernel_rfl) ?_ _
          go_wp2
          go_meet
          exact ⟨_, xp, xc, rfl, BX2.set _, (HSX.out.setBox BX2 _).gr (Nat.le_trans HXL.out (by decide)), below_setBox BWB BX2 hle _⟩
      case rest =>
        obtain ⟨b, xp, xc, rfl, hxb, hxg, hbx⟩ := hcut
        have HXG := Lib.hid hxg
        have HBX := Lib.hid hbx
        have cxb := hxb.cell
        have CNTL := Lib.hid (fun wz xp xc => CNT.out l wz xp xc HL1.out HL2.out HL3.out hl8)
        clear hxg hbx hxb
        go_wp2_with (go_at_call 29; refine (CNTL.out _ _ _ HXG.out (HT6.out.keep HBX.out)).mono ?_; rintro e wq ⟨rfl, hbq⟩)
        go_meet
        exact ⟨by rw [HAE.out, HLE.out], HBX.out.trans (hbq.mono HBX.out.size)⟩
    · have h1i : ¬ (1 : Int) < (g.length : Int) := by omega
      have HA1 : Hid (A = 1) := Lib.hid (by
        have e : g.length = 1 := by omega
        rw [HAE.out, e, rst_one_nil (by omega), cntL_nil])
      go_wp2
      go_meet
      exact ⟨by rw [HA1.out]; rfl, Below.refl _ _⟩
  case rest =>
  obtain ⟨rfl, hb8⟩ := hcut
  obtain ⟨w8, hnm⟩ : ∃ z, z = wc := ⟨_, rfl⟩
  rw [← hnm] at hb8 ⊢
  clear hnm
  have HX8 := Lib.hid (HX6.out.keep hb8)
  have HG8 := Lib.hid (HG6.out.below hb8)
  have HD8 := Lib.hid (HD6.out.keep hb8)
  have HT8 := Lib.hid (HT6.out.keep hb8)
  have HDL8 : Hid (db < w8.heap.size) := Lib.hid (Nat.lt_of_lt_of_le HDL6.out hb8.size)
  clear HX6 HG6 HD6 HT6 HDL6 hb8 c6
  have START := Lib.hid (ownsRow_empty w8 2 1)
  have STB := Lib.hid (below_alloc w8 (.cells #[] 2))
  go_wp2_with fail
  go_loopw [11, 12] (fun ov uv wr => ∃ k : Nat, k ≤ g.length ∧ uv = .int .i64 (k : Int) ∧ Hid (wr.ownsRow w8.heap.size 2 1 ov (farL g v k).length ((natInts (farL g v k)).map (Value.int .i64))) ∧ Hid (Below w8.heap.size w8 wr)) (fun _ uv _ => g.length - (intOf uv).toNat)
  case atStart => exact ⟨0, Nat.zero_le _, rfl, START, STB⟩
  case round =>
    clear START STB
    obtain ⟨k, hk, rfl, HO, HB⟩ := hrel
    have cg := HB.out.at' HX8.out.cell
    have hlen := farL_len (g := g) v k
    by_cases hlt : k < g.length
    · have hki : (k : Int) < (g.length : Int) := by omega
      have hown := HO.out
      have hsz := HB.out.size
      have hEd : EdgP g (k : Int) (v : Int) ↔ ofG g k v = true := by
        unfold EdgP ofG
        rw [decide_eq_true_iff, Int.toNat_natCast]
        exact ⟨fun h => h.2.2, fun h => ⟨HOK.out, ⟨by omega, by omega⟩, h⟩⟩
      by_cases hkv : k = v
      · have hne : ((k : Int) != (v : Int)) = false := by simp [hkv]
        have HS := Lib.hid (farL_no (g := g) (.inl hkv))
        clear hkv hEd
        go_wp2_with fail
        go_roundw
        case rel => exact ⟨k + 1, by omega, by go_num, Lib.hid (by rw [HS.out]; exact HO.out), HB⟩
        case measure => simp [intOf]; omega
      have hne : ((k : Int) != (v : Int)) = true := by simp; omega
      by_cases hE : ofG g k v = true
      · have HD := Lib.hid (dec_true (hEd.2 hE))
        have HS := Lib.hid (farL_no (g := g) (m := k) (v := v) (.inr hE))
        clear hE hEd hkv
        go_wp2_with (go_at_call 31; refine (specEdgeInC_any _ g _ _ _ (HG8.out.below HB.out)).mono ?_; rintro e w2 ⟨he, hb2⟩; rw [HD.out] at he; subst he)
        go_roundw
        case rel => exact ⟨k + 1, by omega, by go_num, Lib.hid (by rw [HS.out]; exact ownsRow_below HO.out hb2), Lib.hid (HB.out.trans (hb2.mono HB.out.size))⟩
        case measure => simp [intOf]; omega
      · have hE0 : ofG g k v = false := by simpa using hE
        have HD := Lib.hid (dec_false (fun h => hE (hEd.1 h)))
        have HS := Lib.hid (farL_yes (g := g) hkv hE0)
        clear hE hEd hkv hE0
        go_wp2_with (first
          | (go_at_call 31; refine (specEdgeInC_any _ g _ _ _ (HG8.out.below HB.out)).mono ?_; rintro e w2 ⟨he, hb2⟩; rw [HD.out] at he; subst he; have hown2 := ownsRow_below hown hb2; have hsz2 := Nat.le_trans hsz hb2.size)
          | (at_builtin; refine wpList_app1 ty_i64 rfl rfl rfl hown2 rfl rfl (by omega) hsz2 ?_; intro v7 w7 hown7 hg7 _))
        have HO7 := Lib.hid hown7
        have HB7 := Lib.hid (below_grown (HB.out.trans (hb2.mono HB.out.size)) hown2 hg7 (Nat.le_refl _) hsz2)
        go_roundw
        case rel => exact ⟨k + 1, by omega, by go_num, Lib.hid (by rw [HS.out, show natInts (farL g v k ++ [k]) = natInts (farL g v k) ++ [(k : Int)] by simp [natInts], List.map_append, List.length_append]; exact HO7.out), HB7⟩
        case measure => simp [intOf]; omega
    · obtain rfl : k = g.length := by omega
      obtain ⟨l, hl9⟩ : ∃ l, l = farL g v g.length := ⟨_, rfl⟩
      have HLE := Lib.hid hl9
      have HL1 : Hid (l.Pairwise (· < ·)) := Lib.hid (by rw [hl9]; exact farL_rising _ _)
      have HL2 : Hid (∀ x ∈ l, x < g.length) := Lib.hid (by rw [hl9]; exact farL_lt)
      have hl8 : l.length ≤ 8 := by rw [hl9]; exact Nat.le_trans (farL_len _ _) hg8
      rw [← hl9] at HO
      have HNF : Hid (Nums wr 2 .i64 _ (natInts l)) := Lib.hid (Nums.of_owns HO.out (by rw [natInts_length]) (by omega))
      obtain ⟨fp, fc, hfv, _⟩ := id HNF.out.shape
      rw [natInts_length] at hfv
      subst hfv
      clear hl9 hlen hlt hk
      obtain ⟨w9, hw9⟩ : ∃ w9, w9 = wr := ⟨_, rfl⟩
      rw [← hw9] at HB HNF cg ⊢
      clear hw9 HO
      have HX9 := Lib.hid (HX8.out.keep HB.out)
      have HG9 := Lib.hid (HG8.out.below HB.out)
      have HD9 := Lib.hid (HD8.out.keep HB.out)
      have HT9 := Lib.hid (HT8.out.keep HB.out)
      have HDL9 : Hid (db < w9.heap.size) := Lib.hid (Nat.lt_of_lt_of_le HDL8.out HB.out.size)
      clear HX8 HG8 HD8 HT8 HDL8 HB
      go_upto_if 74 with fail
      go_cut [10] (fun s wx => s = .int .i64 (B : Int) ∧ Below w9.heap.size w9 wx)
      case first =>
        by_cases h0 : 0 < l.length
        · have h0i : (0 : Int) < (l.length : Int) := by omega
          have hx8 : (indL g (natInts l)).length ≤ 8 := by rw [ind_rows]; exact hl8
          have INDL := Lib.hid (fun wz lv => IND.out wz lv l HL1.out HL2.out h0)
          have CNTL := Lib.hid (fun wz xp xc => CNT.out l wz xp xc HL1.out HL2.out h0 hl8)
          clear h0
          go_upto_region 20 with (go_at_call 30; refine (INDL.out _ _ HG9.out HNF.out).mono ?_; rintro e w2 ⟨xp, xc, rfl, hsx, hb2⟩)
          obtain ⟨w3, hw3⟩ : ∃ w3, w3 = w2.alloc (.cells #[.slice xp (indL g (natInts l)).length xc] 29) := ⟨_, rfl⟩
          rw [← hw3]
          have hb23 : Below w2.heap.size w2 w3 := by rw [hw3]; exact below_alloc _ _
          have hxb : Box w3 w2.heap.size 29 (.slice xp (indL g (natInts l)).length xc) := by rw [hw3]; exact Box.new _ _ _
          have HXG := Lib.hid ((hsx.below hb23).gr (by omega))
          have HBX := Lib.hid (hb2.trans (hb23.mono hb2.size))
          have cxb := hxb.cell
          clear hw3 hb23 hxb hsx hb2
          go_wp2_with (go_at_call 29; refine (CNTL.out _ _ _ HXG.out (HT9.out.keep HBX.out)).mono ?_; rintro e wq ⟨rfl, hbq⟩)
          go_meet
          exact ⟨by rw [HBE.out, HLE.out], HBX.out.trans (hbq.mono HBX.out.size)⟩
        · have h0i : ¬ (0 : Int) < (l.length : Int) := by omega
          have HB1 : Hid (B = 1) := Lib.hid (by
            have e : l = [] := List.eq_nil_of_length_eq_zero (by omega)
            rw [HBE.out, ← HLE.out, e, cntL_nil])
          go_wp2
          go_meet
          exact ⟨by rw [HB1.out]; rfl, Below.refl _ _⟩
      case rest =>
      obtain ⟨rfl, hba⟩ := hcut
      obtain ⟨wa, hnm⟩ : ∃ z, z = wc := ⟨_, rfl⟩
      rw [← hnm] at hba ⊢
      clear hnm
      have HXa := Lib.hid (HX9.out.keep hba)
      have HGa := Lib.hid (HG9.out.below hba)
      have HDa := Lib.hid (HD9.out.keep hba)
      have HTa := Lib.hid (HT9.out.keep hba)
      have HDLa : Hid (db < wa.heap.size) := Lib.hid (Nat.lt_of_lt_of_le HDL9.out hba.size)
      have ca := HXa.out.cell
      have hMi : ((M : Int) != (B : Int) + (A : Int)) = false := by have := HMAB.out; simp; omega
      clear HX9 HG9 HD9 HT9 HDL9 hba cg HNF HL1 HL2 hl8 HLE HAE HBE IND CNT HNV
      go_upto_region 24 with (go_at_call 15; refine (w6Set_any W db bs gp g.length gc (by omega) _ HDa.out HDLa.out).mono ?_; rintro e wb ⟨ov, o, rfl, hol, hor, hoi, hdw⟩; have HDW := Lib.hid hdw; have HOR := Lib.hid hor; have HOI := Lib.hid hoi; clear hdw hor hoi)
      have HNO : Hid (Nums wb 2 .i64 ov (natInts o)) := Lib.hid (Nums.of_owns HDW.out.own rfl (by rw [natInts_length]; omega))
      obtain ⟨op, oc, hov, _⟩ := id HNO.out.shape
      rw [natInts_length] at hov
      subst hov
      have HXb := Lib.hid (HXa.out.diced HDa.out HDW.out.gr (by decide))
      have HGb := Lib.hid (Gr.dicedR HDa.out HDW.out.gr HGa.out)
      have HDb := Lib.hid HDW.out.dice
      have HTb := Lib.hid (HT.out.keep HDb.out.bel)
      have cb := HXb.out.cell
      clear HXa HGa HDa HTa HDLa HDW ca HOR hMi hM256 HMAB hA256 hB256
      obtain ⟨bst, hbst⟩ : ∃ bst, bst = dec (StbS g (natInts o)) := ⟨_, rfl⟩
      have HBST := Lib.hid hbst
      have STB : Hid (∀ wz, Gr wz (.agg #[.slice gp g.length gc]) g → Nums wz 2 .i64 (.slice op o.length oc) (natInts o) → Calls Tryd.prog 23 #[.agg #[.slice gp g.length gc], .slice op o.length oc] wz fun e w' => e = .returned (.bool bst) ∧ Below wz.heap.size wz w') := Lib.hid fun wz h1 h2 => by
        rw [hbst]
        exact specStableIn_any _ _ g _ (by omega) wz h1 h2
      clear hbst
      go_upto_region 25 with (go_at_call 23; refine (STB.out _ HGb.out HNO.out).mono ?_; rintro e wc ⟨rfl, hbc⟩; have HBC := Lib.hid hbc; have cc := hbc.at' cb; clear hbc)
      go_upto_region 27 with (go_at_call 32; refine (implLastingStables_any _ g _ (HGb.out.below HBC.out) HOK.out hg8 (HTb.out.keep HBC.out)).mono ?_; rintro e wd ⟨lu, L, rfl, hpm, hdl, hbd⟩; have HPM := Lib.hid hpm; have HDLL := Lib.hid hdl; have HBD := Lib.hid (HBC.out.trans (hbd.mono HBC.out.size)); have cd := hbd.at' cc; clear hpm hdl hbd)
      have hLl : L.length ≤ 256 := by
        rw [HPM.out.length_eq]
        exact Nat.le_trans (clsP_len _ _) (Nat.le_trans (Nat.pow_le_pow_right (by decide) hg8) (by decide))
      have HTM : Hid (∀ T ∈ L, T ∈ clsP g.length (ofG (matG g.length (compE (ofG g))))) := Lib.hid fun T h => HPM.out.mem_iff.1 h
      have HLG : Hid (Gr wd (.agg #[lu]) (L.map natInts)) := Lib.hid (HDLL.out.gr (by rw [List.length_map]; omega) fun j hj => by
        rw [List.length_map] at hj
        have hm := clsP_mem (HTM.out _ (List.getElem_mem hj))
        have e : row (L.map natInts) j = natInts L[j] := by simp [row, hj]
        rw [e, natInts_length]
        by_cases h0 : L[j] = []
        · rw [h0]; simp
        · have := rising_room (lo := 0) (n := g.length) hm.1 (fun x hx => ⟨Nat.zero_le _, hm.2 x hx⟩) h0
          omega)
      obtain ⟨gu, eGU, hrg⟩ := id HLG.out
      obtain rfl : lu = gu := by simpa using eGU
      obtain ⟨lp, lc, hlv, _⟩ := id hrg.shape
      rw [List.length_map] at hlv
      subst hlv
      have HRG := Lib.hid hrg
      have HXd := Lib.hid (HXb.out.keep HBD.out)
      have HGd := Lib.hid (HGb.out.below HBD.out)
      have HTd := Lib.hid (HTb.out.keep HBD.out)
      have HWd := Lib.hid (HDb.out.bel.trans (HBD.out.mono HDb.out.bel.size))
      have HNOd := Lib.hid (HNO.out.below HBD.out)
      have HFIN : Hid (StbS g (natInts o) → ∃ T ∈ L, ∀ x ∈ o, x ∈ T) := Lib.hid fun h => by
        obtain ⟨T, hT, hin⟩ := last_all HOK.out h
        exact ⟨T, HPM.out.mem_iff.2 hT, hin⟩
      have HOKT : Hid (∀ T ∈ L, StbS g (natInts T) ∧ RulS g (natInts T)) := Lib.hid fun T h => last_ok HOK.out (HTM.out T h)
      have HNE : Hid (o.length ≤ 8) := Lib.hid (by omega)
      have ho8 := HNE.out
      clear hrg eGU HLG HDLL HPM HTM HXb HGb HTb HDb HBC HBD HNO cb cc STB hol
      go_wp2_with fail
      go_loopw [17, 19, 20, 21] (fun fv iv _ _ wr => ∃ (i : Nat) (b : Bool), i ≤ L.length ∧ iv = .int .i64 (i : Int) ∧ fv = .bool b ∧ Hid (b = true ↔ ∃ T ∈ L.take i, ∀ x ∈ o, x ∈ T) ∧ Hid (Below wd.heap.size wd wr)) (fun _ iv _ _ _ => L.length - (intOf iv).toNat)
      case atStart => exact ⟨0, false, Nat.zero_le _, rfl, rfl, Lib.hid (by simp), Lib.hid (Below.refl _ _)⟩
      case round =>
        obtain ⟨i, b, hi, rfl, rfl, HF, HB⟩ := hrel
        have ce := HB.out.at' HXd.out.cell
        by_cases hil : i < L.length
        · have e4 : (i : Int) < (L.length : Int) := by omega
          obtain ⟨pb, po, rp, rc, hpp, cp, hpn⟩ := (HRG.out.below HB.out).get (k := i) (by rw [List.length_map]; exact hil)
          subst hpp
          obtain ⟨T, hT⟩ : ∃ T, T = L[i] := ⟨_, rfl⟩
          have HTL : Hid (T ∈ L) := Lib.hid (by rw [hT]; exact List.getElem_mem hil)
          have eP : (L.map natInts).getD i [] = natInts T := by rw [hT]; simp [hil]
          rw [eP, natInts_length] at cp hpn
          have HPN := Lib.hid hpn
          have HTK : Hid (L.take (i + 1) = L.take i ++ [T]) := Lib.hid (by rw [take_snoc' L i hil, hT])
          obtain ⟨pn, hpnl⟩ : ∃ pn, pn = T.length := ⟨_, rfl⟩
          rw [← hpnl] at cp HPN
          have HD1 := Lib.hid (dec_true (HOKT.out T HTL.out).1)
          have HD2 := Lib.hid (dec_true (HOKT.out T HTL.out).2)
          clear hpn eP hT hpnl
          go_upto_region 30 with fail
          go_cut [117] (fun s wx => s = .bool false ∧ Below wr.heap.size wr wx)
          case first =>
            go_region_held3 (fun w' => w'.cell? ⟨bg, 0, none⟩ = some (.slice gp g.length gc) ∧ w'.cell? ⟨pb, po + i, none⟩ = some (.slice rp pn rc))
              (first | exact ⟨ce, cp⟩ | go_keep | exact ⟨BWB.at' ce, BWB.at' cp⟩ | exact ⟨BWA.at' ce, BWA.at' cp⟩)
              (first
                | (have X := BWA; go_at_call 33; refine (implRuleIn_any _ _ g (natInts T) (by omega) _ ((HGd.out.below HB.out).below BWA) (HPN.out.below BWA) ((HTd.out.keep HB.out).keep BWA)).mono ?_; rintro e wy ⟨he, hbq⟩; rw [HD2.out] at he; subst he; have BWB : Below wr.heap.size wr wy := BWA.trans (hbq.mono BWA.size); clear hbq)
                | (go_at_call 23; refine (specStableIn_any _ _ g (natInts T) (by omega) _ ((HGd.out.below HB.out).below (below_dN (Below.refl _ _) 1)) (HPN.out.below (below_dN (Below.refl _ _) 1))).mono ?_; rintro e wz ⟨he, hbq⟩; rw [HD1.out] at he; subst he; have BWA : Below wr.heap.size wr wz := (below_dN (Below.refl _ _) 1).trans hbq; clear hbq))
            all_goals go_wp2
            all_goals go_meet
            all_goals exact ⟨rfl, BWB⟩
          case rest =>
          obtain ⟨rfl, hbz⟩ := hcut
          obtain ⟨we, hnm⟩ : ∃ z, z = wc := ⟨_, rfl⟩
          rw [← hnm] at hbz ⊢
          clear hnm
          have HBE := Lib.hid (HB.out.trans (hbz.mono HB.out.size))
          have HPNe := Lib.hid (HPN.out.below hbz)
          have cpe := hbz.at' cp
          clear hbz HPN cp ce HD1 HD2
          go_wp2_with fail
          go_loopw [20, 21] (fun nv kv wx => ∃ k : Nat, k ≤ o.length ∧ kv = .int .i64 (k : Int) ∧ nv = .bool (dec (∀ x ∈ o.take k, x ∈ T)) ∧ Hid (Below we.heap.size we wx)) (fun _ kv _ => o.length - (intOf kv).toNat)
          case atStart => exact ⟨0, Nat.zero_le _, rfl, by rw [dec_true (by simp)], Lib.hid (Below.refl _ _)⟩
          case round =>
            obtain ⟨k, hk, rfl, rfl, HK⟩ := hrel
            obtain ⟨wk, hnm⟩ : ∃ z, z = wr := ⟨_, rfl⟩
            rw [← hnm] at HK ⊢
            clear hnm
            by_cases hkl : k < o.length
            · have e5 : (k : Int) < (o.length : Int) := by omega
              obtain ⟨x, hx⟩ : ∃ x, x = o[k] := ⟨_, rfl⟩
              obtain ⟨qb, qo, hqp, cq⟩ := ((HNOd.out.below HBE.out).below HK.out).get (k := k) (by rw [natInts_length]; exact hkl)
              subst hqp
              have e1 : (natInts o)[k]'(by rw [natInts_length]; exact hkl) = (x : Int) := by rw [hx]; simp [natInts]
              rw [e1] at cq
              have cpk := HK.out.at' cpe
              have HSTEP : Hid ((∀ y ∈ o.take (k + 1), y ∈ T) ↔ (∀ y ∈ o.take k, y ∈ T) ∧ x ∈ T) := Lib.hid (by
                rw [take_snoc' o k hkl, ← hx]
                simp only [List.mem_append, List.mem_singleton]
                exact ⟨fun h => ⟨fun y hy => h y (.inl hy), h x (.inr rfl)⟩, fun h y hy => by
                  rcases hy with hy | rfl
                  · exact h.1 y hy
                  · exact h.2⟩)
              clear hx e1
              go_upto_region 36 with fail
              by_cases hin : ∀ y ∈ o.take k, y ∈ T
              · obtain ⟨r, hr⟩ : ∃ r, r = dec (∀ y ∈ o.take (k + 1), y ∈ T) := ⟨_, rfl⟩
                have HDX : Hid (dec ((x : Int) ∈ natInts T) = r) := Lib.hid (by
                  rw [hr]
                  by_cases h : x ∈ T
                  · rw [dec_true (mem_natInts.2 ⟨x, h, rfl⟩), dec_true (HSTEP.out.2 ⟨hin, h⟩)]
                  · rw [dec_false (fun k => h (by obtain ⟨j, hj, e⟩ := mem_natInts.1 k; obtain rfl : x = j := by omega
                                                  exact hj)), dec_false (fun k => h (HSTEP.out.1 k).2)])
                have HR := Lib.hid hr
                rw [dec_true hin]
                clear hin hr
                go_region_held3 (fun w' => w'.cell? ⟨pb, po + i, none⟩ = some (.slice rp pn rc) ∧ w'.cell? ⟨qb, qo + k, none⟩ = some (.int .i64 (x : Int)))
                  (first | exact ⟨cpk, cq⟩ | go_keep)
                  (first
                    | (go_at_call 34; refine (w6Has_any _ (natInts T) (x : Int) _ ((HPNe.out.below HK.out).below (below_dN (Below.refl _ _) 1))).mono ?_; rintro e wz ⟨he, hw⟩; rw [HDX.out] at he; subst he; subst hw))
                all_goals go_wp2
                all_goals go_roundw
                case rel => exact ⟨k + 1, by omega, by go_num, by rw [HR.out], Lib.hid (below_dN HK.out _)⟩
                case measure => simp [intOf]; omega
              · have HR : Hid (dec (∀ y ∈ o.take (k + 1), y ∈ T) = false) := Lib.hid (dec_false fun h => hin (HSTEP.out.1 h).1)
                rw [dec_false hin]
                clear hin
                refine wp_region_held_drew (S := (fun w' => w'.cell? ⟨pb, po + i, none⟩ = some (.slice rp pn rc) ∧ w'.cell? ⟨qb, qo + k, none⟩ = some (.int .i64 (x : Int)))) (by kernel_rfl) ?_ (fun hHeld => ?_)
                · exact ⟨cpk, cq⟩
                refine wpAnyH_take (i := 0) (v := .bool false) rfl (by kernel_rfl) (by kernel_rfl) (by kernel_rfl) (fun _ _ _ h => h) (Or.inl ⟨by rfl, ?_⟩) (by assumption) ?_
                · intro wz hSw; (try dsimp only at hSw); go_simp; try rfl
                try simp only [Act.put, List.getElem_toArray, List.getElem_cons_succ, List.getElem_cons_zero, List.setIfInBounds_toArray, List.set_cons_zero, List.set_cons_succ]
                refine wpAnyH_take (i := 1) (v := .bool false) rfl (by kernel_rfl) (by kernel_rfl) (by kernel_rfl) (fun _ _ _ h => h) (Or.inl ⟨by rfl, ?_⟩) (by assumption) ?_
                · intro wz hSw; (try dsimp only at hSw); go_simp; try rfl
                try simp only [Act.put, List.getElem_toArray, List.getElem_cons_succ, List.getElem_cons_zero, List.setIfInBounds_toArray, List.set_cons_zero, List.set_cons_succ]
                refine wpAnyH_take (i := 2) (v := undef) rfl (by kernel_rfl) (by kernel_rfl) (by kernel_rfl) (fun _ _ _ h => h) (Or.inr ⟨by kernel_rfl, rfl⟩) (by assumption) ?_
                try simp only [Act.put, List.getElem_toArray, List.getElem_cons_succ, List.getElem_cons_zero, List.setIfInBounds_toArray, List.set_cons_zero, List.set_cons_succ]
                refine wpAnyH_take (i := 3) (v := undef) rfl (by kernel_rfl) (by kernel_rfl) (by kernel_rfl) (fun _ _ _ h => h) (Or.inr ⟨by kernel_rfl, rfl⟩) (by assumption) ?_
                try simp only [Act.put, List.getElem_toArray, List.getElem_cons_succ, List.getElem_cons_zero, List.setIfInBounds_toArray, List.set_cons_zero, List.set_cons_succ]
                refine wpAnyH_take (i := 4) (v := undef) rfl (by kernel_rfl) (by kernel_rfl) (by kernel_rfl) (fun _ _ _ h => h) (Or.inr ⟨by kernel_rfl, rfl⟩) (by assumption) ?_
                try simp only [Act.put, List.getElem_toArray, List.getElem_cons_succ, List.getElem_cons_zero, List.setIfInBounds_toArray, List.set_cons_zero, List.set_cons_succ]
                refine wpAnyH_take (i := 5) (v := undef) rfl (by kernel_rfl) (by kernel_rfl) (by kernel_rfl) (fun _ _ _ h => h) (Or.inr ⟨by kernel_rfl, rfl⟩) (by assumption) ?_
                try simp only [Act.put, List.getElem_toArray, List.getElem_cons_succ, List.getElem_cons_zero, List.setIfInBounds_toArray, List.set_cons_zero, List.set_cons_succ]
                refine wpAnyH_take (i := 6) (v := undef) rfl (by kernel_rfl) (by kernel_rfl) (by kernel_rfl) (fun _ _ _ h => h) (Or.inr ⟨by kernel_rfl, rfl⟩) (by assumption) ?_
                try simp only [Act.put, List.getElem_toArray, List.getElem_cons_succ, List.getElem_cons_zero, List.setIfInBounds_toArray, List.set_cons_zero, List.set_cons_succ]
                refine wpAnyH_take (i := 7) (v := undef) rfl (by kernel_rfl) (by kernel_rfl) (by kernel_rfl) (fun _ _ _ h => h) (Or.inr ⟨by kernel_rfl, rfl⟩) (by assumption) ?_
                try simp only [Act.put, List.getElem_toArray, List.getElem_cons_succ, List.getElem_cons_zero, List.setIfInBounds_toArray, List.set_cons_zero, List.set_cons_succ]
                refine wpAnyH_take (i := 8) (v := undef) rfl (by kernel_rfl) (by kernel_rfl) (by kernel_rfl) (fun _ _ _ h => h) (Or.inr ⟨by kernel_rfl, rfl⟩) (by assumption) ?_
                try simp only [Act.put, List.getElem_toArray, List.getElem_cons_succ, List.getElem_cons_zero, List.setIfInBounds_toArray, List.set_cons_zero, List.set_cons_succ]
                refine wpAnyH_take (i := 9) (v := undef) rfl (by kernel_rfl) (by kernel_rfl) (by kernel_rfl) (fun _ _ _ h => h) (Or.inr ⟨by kernel_rfl, rfl⟩) (by assumption) ?_
                try simp only [Act.put, List.getElem_toArray, List.getElem_cons_succ, List.getElem_cons_zero, List.setIfInBounds_toArray, List.set_cons_zero, List.set_cons_succ]
                refine wpAnyH_take (i := 10) (v := undef) rfl (by kernel_rfl) (by kernel_rfl) (by kernel_rfl) (fun _ _ _ h => h) (Or.inr ⟨by kernel_rfl, rfl⟩) (by assumption) ?_
                try simp only [Act.put, List.getElem_toArray, List.getElem_cons_succ, List.getElem_cons_zero, List.setIfInBounds_toArray, List.set_cons_zero, List.set_cons_succ]
                refine wpAnyH_take (i := 11) (v := .bool false) rfl (by kernel_rfl) (by kernel_rfl) (by kernel_rfl) (fun _ _ _ h => h) (Or.inl ⟨by rfl, ?_⟩) (by assumption) ?_
                · intro wz hSw; (try dsimp only at hSw); go_simp; try rfl
                try simp only [Act.put, List.getElem_toArray, List.getElem_cons_succ, List.getElem_cons_zero, List.setIfInBounds_toArray, List.set_cons_zero, List.set_cons_succ]
                refine wpAnyH_take (i := 12) (v := .bool false) rfl (by kernel_rfl) (by kernel_rfl) (by kernel_rfl) (fun _ _ _ h => h) (Or.inl ⟨by rfl, ?_⟩) (by assumption) ?_
                · intro wz hSw; (try dsimp only at hSw); go_simp; try rfl
                try simp only [Act.put, List.getElem_toArray, List.getElem_cons_succ, List.getElem_cons_zero, List.setIfInBounds_toArray, List.set_cons_zero, List.set_cons_succ]
                refine wpAnyH_done (by kernel_rfl) ?_ _
                go_wp2_with fail
                go_roundw
                case rel => exact ⟨k + 1, by omega, by go_num, by rw [HR.out], Lib.hid (below_dN HK.out _)⟩
                case measure => simp [intOf]; omega
            · obtain rfl : k = o.length := by omega
              rw [List.take_length]
              obtain ⟨r, hr⟩ : ∃ r, r = dec (∀ x ∈ o, x ∈ T) := ⟨_, rfl⟩
              have HNEW : Hid ((b || r) = true ↔ ∃ T ∈ L.take (i + 1), ∀ x ∈ o, x ∈ T) := Lib.hid (by
                rw [HTK.out, Bool.or_eq_true, HF.out, hr, dec_iff]
                constructor
                · rintro (⟨T', h1, h2⟩ | h)
                  · exact ⟨T', List.mem_append.2 (.inl h1), h2⟩
                  · exact ⟨T, by simp, h⟩
                · rintro ⟨T', h1, h2⟩
                  rcases List.mem_append.1 h1 with h1 | h1
                  · exact .inl ⟨T', h1, h2⟩
                  · obtain rfl : T' = T := by simpa using h1
                    exact .inr h2)
              rw [← hr]
              clear hr
              cases b <;> cases r
              all_goals
                go_wp2_with fail
                go_roundw
                case rel => exact ⟨i + 1, _, by omega, by go_num, rfl, HNEW, Lib.hid (HBE.out.trans (HK.out.mono HBE.out.size))⟩
                case measure => simp [intOf]; omega
        · obtain rfl : i = L.length := by omega
          rw [List.take_length] at HF
          have HRES : Hid (bst = true → b = true) := Lib.hid fun h => HF.out.2 (HFIN.out (Classical.byContradiction fun k => by rw [HBST.out, dec_false k] at h; cases h))
          have HTRUE : Hid ((!bst || b) = true) := Lib.hid (by
            have := HRES.out
            cases bst <;> simp_all)
          clear HRES
          cases bst <;> cases b
          · go_wp2_with fail
            go_ret
            exact ⟨rfl, HWd.out.trans (HB.out.mono HWd.out.size)⟩
          · go_wp2_with fail
            go_ret
            exact ⟨rfl, HWd.out.trans (HB.out.mono HWd.out.size)⟩
          · exact absurd HTRUE.out (by decide)
          · go_wp2_with fail
            go_ret
            exact ⟨rfl, HWd.out.trans (HB.out.mono HWd.out.size)⟩

end Go.Proofs.YtkppbmfliejnmaaDoor
