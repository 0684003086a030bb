/- Walk: the program's BarrierOf (printed by wip/mkBaG.py). -/
import Derived.Test.YtiooindlpinjhaaDoorBaQ40
import Derived.Test.YtiooindlpinjhaaDoorBaQ8
namespace Go.Proofs.YtiooindlpinjhaaDoor
open Go.RowKit

theorem below_setBoxBa {B b : Nat} {a w : World} {T : TypeId} {v : Value} (h : Below B a w) (hx : Box w b T v) (hb : B ≤ b) (u : Value) : Below B a (w.setCell ⟨b, 0, none⟩ u) := h.setCell (p := ⟨b, 0, none⟩) hb u
theorem below_al1Ba (w : World) (o : Obj) : Below w.heap.size w (w.alloc o).drew := below_dN (below_alloc w o) 1
theorem Box.drewBa {w : World} {b : Nat} {T : TypeId} {v : Value} (h : Box w b T v) : Box w.drew b T v := h.keep (below_dN (Below.refl _ _) 1)
theorem neOfBa {g : List (List Int)} (hok : GOk g) {w : World} {base : Nat} {x : Value} (h : w.ownsRow base 71 1 x g.length ((netL g).map u32v)) : NE w x g.length (ofG g) :=
  ⟨hok.le, by rw [indN_ofG hok]; exact Sl.of_owns h (by have := hok.le; omega)⟩

set_option maxRecDepth 100000 in
set_option maxHeartbeats 8000000 in
theorem implBarrierOf_any (v : Value) (g : List (List Int)) (w : World) (hg : Gr w v g) (hT : Tab w) :
    Calls Tryd.prog 10 #[v] w fun e w' => ∃ (ov : Value) (ys : List Int), e = .returned ov ∧ BarS g ys ∧ ys.length ≤ 32 ∧
      w'.ownsRow w.heap.size 2 1 ov ys.length (ys.map (Value.int .i64)) ∧ Below w.heap.size w w' := by
  have hg0 := Lib.hid hg
  obtain ⟨_, rfl, hr⟩ := hg
  obtain ⟨ga, gc, rfl, _⟩ := hr.shape
  obtain ⟨w1, hw1⟩ : ∃ w1, w1 = w.alloc (.cells #[.slice ga g.length gc] 28) := ⟨_, rfl⟩
  have HX : Hid (Box w1 w.heap.size 28 (.slice ga g.length gc)) := Lib.hid (by rw [hw1]; exact Box.new _ _ _)
  have HB1 : Hid (Below w.heap.size w w1) := Lib.hid (by rw [hw1]; exact below_alloc _ _)
  have HG1 := Lib.hid (hg0.out.below HB1.out)
  have HT1 := Lib.hid (hT.keep HB1.out)
  have s1 := HB1.out.size
  clear hr hg0 hT
  by_cases hok : GOk g
  case neg =>
    have HD := Lib.hid (dec_false hok)
    have HOK := Lib.hid hok
    clear hok
    go_enter Tryd.func10, Tryd.ntmps10
    go_upto_region 1 with fail
    rw [← hw1]
    clear hw1
    have c1 := HX.out.cell
    go_wp2_with (go_at_call 53; refine (implGraphOk_any _ g _ HG1.out).mono ?_; rintro e w2 ⟨he, hb2⟩; rw [HD.out] at he; subst he)
    go_ret
    exact ⟨_, [], rfl, .inr ⟨HOK.out, rfl⟩, by simp, ⟨rfl, .inl ⟨rfl, rfl⟩⟩, HB1.out.trans (hb2.mono s1)⟩
  have HD := Lib.hid (dec_true hok)
  have HOK := Lib.hid hok
  have n16 := hok.le
  have HS := Lib.hid (ofG_sym hok)
  clear hok
  go_enter Tryd.func10, Tryd.ntmps10
  go_upto_region 1 with fail
  rw [← hw1]
  clear hw1
  have c1 := HX.out.cell
  go_upto_region 4 with (first
    | (go_at_call 54; refine (netsOf_any _ g _ (HG1.out.below hb2) HOK.out).mono ?_; rintro e w3 ⟨xv, rfl, ho3, hb3⟩; obtain ⟨xp, xc, rfl⟩ := owns_shapeBa ho3; have HNE3 := Lib.hid (neOfBa HOK.out ho3); have HB3 : Hid (Below w1.heap.size w1 w3) := Lib.hid (hb2.trans (hb3.mono hb2.size)); clear ho3 hb3)
    | (go_at_call 53; refine (implGraphOk_any _ g _ HG1.out).mono ?_; rintro e w2 ⟨he, hb2⟩; rw [HD.out] at he; subst he; have c2 := hb2.at' c1))
  obtain ⟨n, hn⟩ : ∃ n, n = g.length := ⟨_, rfl⟩
  obtain ⟨E, hE⟩ : ∃ E, E = ofG g := ⟨_, rfl⟩
  rw [← hn] at n16 HNE3 ⊢
  rw [← hE] at HNE3
  have HN := Lib.hid hn
  have HEE := Lib.hid hE
  have HSY : Hid (∀ x y, E x y = true → E y x = true) := Lib.hid (by rw [hE]; exact HS.out)
  obtain ⟨w4, hw4⟩ : ∃ w4, w4 = w3.alloc (.cells #[.slice xp n xc] 67) := ⟨_, rfl⟩
  rw [← hw4]
  have hb34 : Below w3.heap.size w3 w4 := by rw [hw4]; exact below_alloc _ _
  obtain ⟨ba, hba⟩ : ∃ ba, ba = w3.heap.size := ⟨_, rfl⟩
  have HXa : Hid (Box w4 ba 67 (.slice xp n xc)) := Lib.hid (by rw [hw4, hba]; exact Box.new _ _ _)
  have HB4 : Hid (Below w1.heap.size w1 w4) := Lib.hid (HB3.out.trans (hb34.mono HB3.out.size))
  have HNE4 := Lib.hid (HNE3.out.next hb34)
  have HT4 := Lib.hid (HT1.out.keep HB4.out)
  rw [← hba]
  have ca := HXa.out.cell
  clear hn hE hw4 hb34 hba HNE3 HB3 hb2 c1 c2
  obtain ⟨M, hM⟩ : ∃ M, M = 2 ^ n - 1 := ⟨_, rfl⟩
  obtain ⟨N, hN⟩ : ∃ N, N = 2 ^ n := ⟨_, rfl⟩
  have hpn := Nat.two_pow_pos n
  have hN16 : N ≤ 65536 := by
    have h2 : 2 ^ n ≤ 2 ^ 16 := Nat.pow_le_pow_right (by decide) n16
    omega
  have hMN : M < N := by omega
  have HM := Lib.hid hM
  have ALL : Hid (∀ (wz : World), Calls Tryd.prog 56 #[.slice xp n xc] wz fun e w' => e = .returned (.int .u32 (M : Int)) ∧ wz = w') := Lib.hid fun wz => all_any' xp n xc M (by omega) HM.out wz
  obtain ⟨nv, hnv⟩ : ∃ nv, nv = nuL E (List.range n) := ⟨_, rfl⟩
  have hbM : bitsOf M = List.range n := by
    refine rising_ext _ _ (bitsOf_rising _) List.pairwise_lt_range fun x => ?_
    rw [mem_left (by omega), hM, Nat.testBit_two_pow_sub_one, List.mem_range]
    simp
  have hnuM : nuB E M = nv := by unfold nuB; rw [hbM, hnv]
  have hnv16 : nv ≤ 16 := by rw [← hnuM]; exact nuB_le E (by omega)
  have MOST : Hid (∀ (wz : World), Below w4.heap.size w4 wz → Calls Tryd.prog 55 #[.slice xp n xc] wz fun e w' => ∃ kb : Nat, e = .returned (.slice (some ⟨kb, 0, none⟩) N N) ∧ w'.cell? ⟨kb, M, none⟩ = some (.int .i64 (nv : Int)) ∧ Below wz.heap.size wz w') := Lib.hid fun wz hb => by
    refine (mostEdges_any xp xc n N E hN HSY.out wz (HNE4.out.next hb) (HT4.out.keep hb)).mono ?_
    rintro e w' ⟨kb, D, rfl, hI⟩
    have h1 := own64_at hI.own hI.len (u := M) hMN
    rw [hI.val M hMN, hnuM] at h1
    exact ⟨kb, rfl, h1, hI.bel⟩
  obtain ⟨tw, htw⟩ : ∃ tw : Int, tw = 2 * (nv : Int) := ⟨_, rfl⟩
  obtain ⟨gap, hgap⟩ : ∃ gap : Int, gap = (n : Int) - tw := ⟨_, rfl⟩
  have hw2 : IntKind.i64.wrap (2 * (nv : Int)) = tw := by rw [IntKind.wrap_i64]; omega
  have hw3 : IntKind.i64.wrap ((n : Int) - tw) = gap := by rw [IntKind.wrap_i64]; omega
  have HGE : Hid (gap = (n : Int) - 2 * (nuL E (List.range n) : Int)) := Lib.hid (by rw [hgap, htw, hnv])
  have hMi : (M : Int) < (N : Int) := by omega
  have hM0 : (0 : Int) ≤ (M : Int) := by omega
  clear hM hN hpn hnv hbM hnuM htw hgap
  go_cut [4] (fun bv wx => ∃ b, bv = .pointer (some ⟨b, 0, none⟩) ∧ Box wx b 3 (.int .i64 gap) ∧ Below w4.heap.size w4 wx)
  case first =>
    refine wp_region_held_drew (S := (fun w' => w'.cell? ⟨ba, 0, none⟩ = some (.slice xp n xc))) (by kernel_rfl) ?_ (fun hHeld => ?_)
    · exact ca
    refine wpAnyH_take (i := 0) (v := .slice xp n xc) rfl (by kernel_rfl) (by kernel_rfl) (by kernel_rfl) (fun _ _ _ h => h) (Or.inl ⟨by rfl, ?_⟩) (by assumption) ?_
    · intro wz hSw; (try dsimp only at hSw); go_simp; try rfl
    try simp only [Act.put, List.getElem_toArray, List.getElem_cons_succ, List.getElem_cons_zero, List.setIfInBounds_toArray, List.set_cons_zero, List.set_cons_succ]
    refine wpAnyH_take (i := 1) (v := .int .i64 (n : Int)) rfl (by kernel_rfl) (by kernel_rfl) (by kernel_rfl) (fun _ _ _ h => h) (Or.inl ⟨by rfl, ?_⟩) (by assumption) ?_
    · intro wz hSw; (try dsimp only at hSw); go_simp; try rfl
    try simp only [Act.put, List.getElem_toArray, List.getElem_cons_succ, List.getElem_cons_zero, List.setIfInBounds_toArray, List.set_cons_zero, List.set_cons_succ]
    refine wpAnyH_take (i := 2) (v := .slice xp n xc) rfl (by kernel_rfl) (by kernel_rfl) (by kernel_rfl) (fun _ _ _ h => h) (Or.inl ⟨by rfl, ?_⟩) (by assumption) ?_
    · intro wz hSw; (try dsimp only at hSw); go_simp; try rfl
    try simp only [Act.put, List.getElem_toArray, List.getElem_cons_succ, List.getElem_cons_zero, List.setIfInBounds_toArray, List.set_cons_zero, List.set_cons_succ]
    refine wpAnyH_take (i := 4) (v := .slice xp n xc) rfl (by kernel_rfl) (by kernel_rfl) (by kernel_rfl) (fun _ _ _ h => h) (Or.inl ⟨by rfl, ?_⟩) (by assumption) ?_
    · intro wz hSw; (try dsimp only at hSw); go_simp; try rfl
    try simp only [Act.put, List.getElem_toArray, List.getElem_cons_succ, List.getElem_cons_zero, List.setIfInBounds_toArray, List.set_cons_zero, List.set_cons_succ]
    refine wpAnyH_ready (rs := [3, 10]) (by kernel_rfl) (by simp) ?_
    refine AllReadyH.cons rfl (fun K hK => ?_) (AllReadyH.cons rfl (fun K hK => ?_) AllReadyH.nil)
    · skip
      go_simp
      go_at_call 55
      refine (MOST.out (World.drew w4) (below_dN (Below.refl _ _) 1)).mono ?_
      rintro e wa ⟨kb, rfl, hcl, hbq⟩
      have BWA : Below w4.heap.size w4 wa := (below_dN (Below.refl w4.heap.size w4) 1).trans (hbq.mono (below_dN (Below.refl w4.heap.size w4) 1).size)
      clear hbq
      refine hK.out _ _ ?_ (fun hHeld => ?_)
      · exact BWA.at' ca
      clear hK K
      try simp only [Act.put, List.getElem_toArray, List.getElem_cons_succ, List.getElem_cons_zero, List.setIfInBounds_toArray, List.set_cons_zero, List.set_cons_succ]
      refine wpAnyH_ready (rs := [5, 10]) (by kernel_rfl) (by simp) ?_
      refine AllReadyH.cons rfl (fun K hK => ?_) (AllReadyH.cons rfl (fun K hK => ?_) AllReadyH.nil)
      · skip
        go_simp
        go_at_call 56
        refine (ALL.out _).mono ?_
        rintro e w9 ⟨rfl, hw⟩
        subst hw
        refine hK.out _ _ ?_ (fun hHeld => ?_)
        · exact BWA.at' ca
        clear hK K
        try simp only [Act.put, List.getElem_toArray, List.getElem_cons_succ, List.getElem_cons_zero, List.setIfInBounds_toArray, List.set_cons_zero, List.set_cons_succ]
        refine wpAnyH_take (i := 6) (v := .pointer (some ⟨kb, M, none⟩)) rfl (by kernel_rfl) (by kernel_rfl) (by kernel_rfl) (fun _ _ _ h => h) (Or.inl ⟨by rfl, ?_⟩) (by assumption) ?_
        · intro wz hSw; (try dsimp only at hSw); go_simp; try rfl
        try simp only [Act.put, List.getElem_toArray, List.getElem_cons_succ, List.getElem_cons_zero, List.setIfInBounds_toArray, List.set_cons_zero, List.set_cons_succ]
        refine wpAnyH_ready (rs := [7, 10]) (by kernel_rfl) (by simp) ?_
        refine AllReadyH.cons rfl (fun K hK => ?_) (AllReadyH.cons rfl (fun K hK => ?_) AllReadyH.nil)
        · skip
          go_simp
          refine hK.out _ _ ?_ (fun hHeld => ?_)
          · exact BWA.at' ca
          clear hK K
          try simp only [Act.put, List.getElem_toArray, List.getElem_cons_succ, List.getElem_cons_zero, List.setIfInBounds_toArray, List.set_cons_zero, List.set_cons_succ]
          refine wpAnyH_take (i := 8) (v := .int .i64 tw) rfl (by kernel_rfl) (by kernel_rfl) (by kernel_rfl) (fun _ _ _ h => h) (Or.inl ⟨by rfl, ?_⟩) (by assumption) ?_
          · intro wz hSw; (try dsimp only at hSw); go_simp; try rfl
          try simp only [Act.put, List.getElem_toArray, List.getElem_cons_succ, List.getElem_cons_zero, List.setIfInBounds_toArray, List.set_cons_zero, List.set_cons_succ]
          refine wpAnyH_take (i := 9) (v := .int .i64 gap) rfl (by kernel_rfl) (by kernel_rfl) (by kernel_rfl) (fun _ _ _ h => h) (Or.inl ⟨by rfl, ?_⟩) (by assumption) ?_
          · intro wz hSw; (try dsimp only at hSw); go_simp; try rfl
          try simp only [Act.put, List.getElem_toArray, List.getElem_cons_succ, List.getElem_cons_zero, List.setIfInBounds_toArray, List.set_cons_zero, List.set_cons_succ]
          refine wpAnyH_ready (rs := [10]) (by kernel_rfl) (by simp) ?_
          refine AllReadyH.cons rfl (fun K hK => ?_) AllReadyH.nil
          go_simp
          refine hK.out _ _ ?_ (fun hHeld => ?_)
          · exact (below_alloc _ _).at' (BWA.at' ca)
          clear hK K
          try simp only [Act.put, List.getElem_toArray, List.getElem_cons_succ, List.getElem_cons_zero, List.setIfInBounds_toArray, List.set_cons_zero, List.set_cons_succ]
          refine wpAnyH_ready (rs := [11]) (by kernel_rfl) (by simp) ?_
          refine AllReadyH.cons rfl (fun K hK => ?_) AllReadyH.nil
          go_simp
          refine hK.out _ _ ?_ (fun hHeld => ?_)
          · exact (below_alloc _ _).at' (BWA.at' ca)
          clear hK K
          try simp only [Act.put, List.getElem_toArray, List.getElem_cons_succ, List.getElem_cons_zero, List.setIfInBounds_toArray, List.set_cons_zero, List.set_cons_succ]
          refine wpAnyH_done (by kernel_rfl) ?_ _
          go_wp2
          go_meet
          exact ⟨_, rfl, Box.new _ _ _, BWA.alloc BWA.size _⟩
        · skip
          go_simp
          have BWB : Below w4.heap.size w4 (wa.alloc (.cells #[.int .i64 0] 3)) := BWA.alloc BWA.size _
          have BX2 := Box.new wa (.int .i64 0) 3
          have hle := BWA.size
          replace hcl := (below_alloc wa (.cells #[.int .i64 0] 3)).at' hcl
          have cbx := BX2.cell
          have fbx := BX2.free
          refine hK.out _ _ ?_ (fun hHeld => ?_)
          · exact BWB.at' ca
          clear hK K
          try simp only [Act.put, List.getElem_toArray, List.getElem_cons_succ, List.getElem_cons_zero, List.setIfInBounds_toArray, List.set_cons_zero, List.set_cons_succ]
          refine wpAnyH_ready (rs := [7]) (by kernel_rfl) (by simp) ?_
          refine AllReadyH.cons rfl (fun K hK => ?_) AllReadyH.nil
          go_simp
          refine hK.out _ _ ?_ (fun hHeld => ?_)
          · exact BWB.at' ca
          clear hK K
          try simp only [Act.put, List.getElem_toArray, List.getElem_cons_succ, List.getElem_cons_zero, List.setIfInBounds_toArray, List.set_cons_zero, List.set_cons_succ]
          refine wpAnyH_take (i := 8) (v := .int .i64 tw) rfl (by kernel_rfl) (by kernel_rfl) (by kernel_rfl) (fun _ _ _ h => h) (Or.inl ⟨by rfl, ?_⟩) (by assumption) ?_
          · intro wz hSw; (try dsimp only at hSw); go_simp; try rfl
          try simp only [Act.put, List.getElem_toArray, List.getElem_cons_succ, List.getElem_cons_zero, List.setIfInBounds_toArray, List.set_cons_zero, List.set_cons_succ]
          refine wpAnyH_take (i := 9) (v := .int .i64 gap) rfl (by kernel_rfl) (by kernel_rfl) (by kernel_rfl) (fun _ _ _ h => h) (Or.inl ⟨by rfl, ?_⟩) (by assumption) ?_
          · intro wz hSw; (try dsimp only at hSw); go_simp; try rfl
          try simp only [Act.put, List.getElem_toArray, List.getElem_cons_succ, List.getElem_cons_zero, List.setIfInBounds_toArray, List.set_cons_zero, List.set_cons_succ]
          refine wpAnyH_ready (rs := [11]) (by kernel_rfl) (by simp) ?_
          refine AllReadyH.cons rfl (fun K hK => ?_) AllReadyH.nil
          go_simp
          refine hK.out _ _ ?_ (fun hHeld => ?_)
          · exact (below_alloc _ _).at' (BWA.at' ca)
          clear hK K
          try simp only [Act.put, List.getElem_toArray, List.getElem_cons_succ, List.getElem_cons_zero, List.setIfInBounds_toArray, List.set_cons_zero, List.set_cons_succ]
          refine wpAnyH_done (by kernel_rfl) ?_ _
          go_wp2
          go_meet
          exact ⟨_, rfl, Box.new _ _ _, BWA.alloc BWA.size _⟩
      · skip
        go_simp
        have BWB : Below w4.heap.size w4 (wa.alloc (.cells #[.int .i64 0] 3)) := BWA.alloc BWA.size _
        have BX2 := Box.new wa (.int .i64 0) 3
        have hle := BWA.size
        replace hcl := (below_alloc wa (.cells #[.int .i64 0] 3)).at' hcl
        have cbx := BX2.cell
        have fbx := BX2.free
        refine hK.out _ _ ?_ (fun hHeld => ?_)
        · exact BWB.at' ca
        clear hK K
        try simp only [Act.put, List.getElem_toArray, List.getElem_cons_succ, List.getElem_cons_zero, List.setIfInBounds_toArray, List.set_cons_zero, List.set_cons_succ]
        refine wpAnyH_ready (rs := [5]) (by kernel_rfl) (by simp) ?_
        refine AllReadyH.cons rfl (fun K hK => ?_) AllReadyH.nil
        go_simp
        go_at_call 56
        refine (ALL.out _).mono ?_
        rintro e w9 ⟨rfl, hw⟩
        subst hw
        refine hK.out _ _ ?_ (fun hHeld => ?_)
        · exact BWB.at' ca
        clear hK K
        try simp only [Act.put, List.getElem_toArray, List.getElem_cons_succ, List.getElem_cons_zero, List.setIfInBounds_toArray, List.set_cons_zero, List.set_cons_succ]
        refine wpAnyH_take (i := 6) (v := .pointer (some ⟨kb, M, none⟩)) rfl (by kernel_rfl) (by kernel_rfl) (by kernel_rfl) (fun _ _ _ h => h) (Or.inl ⟨by rfl, ?_⟩) (by assumption) ?_
        · intro wz hSw; (try dsimp only at hSw); go_simp; try rfl
        try simp only [Act.put, List.getElem_toArray, List.getElem_cons_succ, List.getElem_cons_zero, List.setIfInBounds_toArray, List.set_cons_zero, List.set_cons_succ]
        refine wpAnyH_ready (rs := [7]) (by kernel_rfl) (by simp) ?_
        refine AllReadyH.cons rfl (fun K hK => ?_) AllReadyH.nil
        go_simp
        refine hK.out _ _ ?_ (fun hHeld => ?_)
        · exact BWB.at' ca
        clear hK K
        try simp only [Act.put, List.getElem_toArray, List.getElem_cons_succ, List.getElem_cons_zero, List.setIfInBounds_toArray, List.set_cons_zero, List.set_cons_succ]
        refine wpAnyH_take (i := 8) (v := .int .i64 tw) rfl (by kernel_rfl) (by kernel_rfl) (by kernel_rfl) (fun _ _ _ h => h) (Or.inl ⟨by rfl, ?_⟩) (by assumption) ?_
        · intro wz hSw; (try dsimp only at hSw); go_simp; try rfl
        try simp only [Act.put, List.getElem_toArray, List.getElem_cons_succ, List.getElem_cons_zero, List.setIfInBounds_toArray, List.set_cons_zero, List.set_cons_succ]
        refine wpAnyH_take (i := 9) (v := .int .i64 gap) rfl (by kernel_rfl) (by kernel_rfl) (by kernel_rfl) (fun _ _ _ h => h) (Or.inl ⟨by rfl, ?_⟩) (by assumption) ?_
        · intro wz hSw; (try dsimp only at hSw); go_simp; try rfl
        try simp only [Act.put, List.getElem_toArray, List.getElem_cons_succ, List.getElem_cons_zero, List.setIfInBounds_toArray, List.set_cons_zero, List.set_cons_succ]
        refine wpAnyH_ready (rs := [11]) (by kernel_rfl) (by simp) ?_
        refine AllReadyH.cons rfl (fun K hK => ?_) AllReadyH.nil
        go_simp
        refine hK.out _ _ ?_ (fun hHeld => ?_)
        · exact (below_alloc _ _).at' (BWA.at' ca)
        clear hK K
        try simp only [Act.put, List.getElem_toArray, List.getElem_cons_succ, List.getElem_cons_zero, List.setIfInBounds_toArray, List.set_cons_zero, List.set_cons_succ]
        refine wpAnyH_done (by kernel_rfl) ?_ _
        go_wp2
        go_meet
        exact ⟨_, rfl, Box.new _ _ _, BWA.alloc BWA.size _⟩
    · skip
      go_simp
      refine hK.out _ _ ?_ (fun hHeld => ?_)
      · exact (below_al1Ba w4 _).at' ca
      clear hK K
      try simp only [Act.put, List.getElem_toArray, List.getElem_cons_succ, List.getElem_cons_zero, List.setIfInBounds_toArray, List.set_cons_zero, List.set_cons_succ]
      refine wpAnyH_ready (rs := [3]) (by kernel_rfl) (by simp) ?_
      refine AllReadyH.cons rfl (fun K hK => ?_) AllReadyH.nil
      go_simp
      go_at_call 55
      refine (MOST.out (World.drew (World.alloc w4 (.cells #[.int .i64 0] 3))) (below_al1Ba w4 _)).mono ?_
      rintro e wa ⟨kb, rfl, hcl, hbq⟩
      have BWB : Below w4.heap.size w4 wa := (below_al1Ba w4 _).trans (hbq.mono (below_al1Ba w4 _).size)
      have BX2 := (Box.new w4 _ _).drewBa.keep hbq
      have hle := Nat.le_refl w4.heap.size
      have cbx := BX2.cell
      have fbx := BX2.free
      clear hbq
      refine hK.out _ _ ?_ (fun hHeld => ?_)
      · exact BWB.at' ca
      clear hK K
      try simp only [Act.put, List.getElem_toArray, List.getElem_cons_succ, List.getElem_cons_zero, List.setIfInBounds_toArray, List.set_cons_zero, List.set_cons_succ]
      refine wpAnyH_ready (rs := [5]) (by kernel_rfl) (by simp) ?_
      refine AllReadyH.cons rfl (fun K hK => ?_) AllReadyH.nil
      go_simp
      go_at_call 56
      refine (ALL.out _).mono ?_
      rintro e w9 ⟨rfl, hw⟩
      subst hw
      refine hK.out _ _ ?_ (fun hHeld => ?_)
      · exact BWB.at' ca
      clear hK K
      try simp only [Act.put, List.getElem_toArray, List.getElem_cons_succ, List.getElem_cons_zero, List.setIfInBounds_toArray, List.set_cons_zero, List.set_cons_succ]
      refine wpAnyH_take (i := 6) (v := .pointer (some ⟨kb, M, none⟩)) rfl (by kernel_rfl) (by kernel_rfl) (by kernel_rfl) (fun _ _ _ h => h) (Or.inl ⟨by rfl, ?_⟩) (by assumption) ?_
      · intro wz hSw; (try dsimp only at hSw); go_simp; try rfl
      try simp only [Act.put, List.getElem_toArray, List.getElem_cons_succ, List.getElem_cons_zero, List.setIfInBounds_toArray, List.set_cons_zero, List.set_cons_succ]
      refine wpAnyH_ready (rs := [7]) (by kernel_rfl) (by simp) ?_
      refine AllReadyH.cons rfl (fun K hK => ?_) AllReadyH.nil
      go_simp
      refine hK.out _ _ ?_ (fun hHeld => ?_)
      · exact BWB.at' ca
      clear hK K
      try simp only [Act.put, List.getElem_toArray, List.getElem_cons_succ, List.getElem_cons_zero, List.setIfInBounds_toArray, List.set_cons_zero, List.set_cons_succ]
      refine wpAnyH_take (i := 8) (v := .int .i64 tw) rfl (by kernel_rfl) (by kernel_rfl) (by kernel_rfl) (fun _ _ _ h => h) (Or.inl ⟨by rfl, ?_⟩) (by assumption) ?_
      · intro wz hSw; (try dsimp only at hSw); go_simp; try rfl
      try simp only [Act.put, List.getElem_toArray, List.getElem_cons_succ, List.getElem_cons_zero, List.setIfInBounds_toArray, List.set_cons_zero, List.set_cons_succ]
      refine wpAnyH_take (i := 9) (v := .int .i64 gap) rfl (by kernel_rfl) (by kernel_rfl) (by kernel_rfl) (fun _ _ _ h => h) (Or.inl ⟨by rfl, ?_⟩) (by assumption) ?_
      · intro wz hSw; (try dsimp only at hSw); go_simp; try rfl
      try simp only [Act.put, List.getElem_toArray, List.getElem_cons_succ, List.getElem_cons_zero, List.setIfInBounds_toArray, List.set_cons_zero, List.set_cons_succ]
      refine wpAnyH_ready (rs := [11]) (by kernel_rfl) (by simp) ?_
      refine AllReadyH.cons rfl (fun K hK => ?_) AllReadyH.nil
      go_simp
      refine hK.out _ _ ?_ (fun hHeld => ?_)
      · exact (below_setBoxBa BWB BX2 hle _).at' ca
      clear hK K
      try simp only [Act.put, List.getElem_toArray, List.getElem_cons_succ, List.getElem_cons_zero, List.setIfInBounds_toArray, List.set_cons_zero, List.set_cons_succ]
      refine wpAnyH_done (by kernel_rfl) ?_ _
      go_wp2
      go_meet
      exact ⟨_, rfl, BX2.set _, below_setBoxBa BWB BX2 hle _⟩
  case rest =>
  obtain ⟨bg, rfl, hbg, hb5⟩ := hcut
  obtain ⟨w5, rfl⟩ : ∃ w5, w5 = wc := ⟨_, rfl⟩
  have HBA := Lib.hid (show BaBase w5 n E xp xc ba bg gap from ⟨n16, HXa.out.keep hb5, hbg, HNE4.out.next hb5, HT4.out.keep hb5, HGE.out⟩)
  have HB5 := Lib.hid (HB1.out.trans ((HB4.out.trans (hb5.mono HB4.out.size)).mono s1))
  have c5 := hb5.at' ca
  have cb := HBA.out.box.cell
  clear hbg hb5 ca
  go_wp2_with (first
    | (go_at_call 61; refine (numbers_any _ sN rfl (by omega) _ (HBA.out.next hb6).tab).mono ?_; rintro e w7 ⟨lv, rfl, ho7, hb7⟩; have HO7 := Lib.hid (ownsRow_base ho7 hb6.size); have HB7 := Lib.hid (HB5.out.trans ((hb6.trans (hb7.mono hb6.size)).mono HB5.out.size)); clear ho7)
    | (go_at_call 57; refine (smallestSet_anyBa n E xp xc ba bg gap _ HBA.out).mono ?_; rintro e w6 ⟨z, he6, hz6, _, hb6⟩; subst he6; obtain ⟨sN, hzs, hLs, hs16⟩ : ∃ sN : Nat, z = (sN : Int) ∧ LeastP (BarP n E) n sN ∧ sN < 65536 := (by rcases hz6 with ⟨s, h1, h2⟩ | h; exact ⟨s, h1, h2, (cand_bits n16 h2.1).2⟩; obtain ⟨s, h1, h2⟩ := bar_ex n16 HSY.out; exact absurd h2 (h s h1)); subst hzs; have HLS := Lib.hid hLs; clear hLs hz6))
  go_ret
  refine ⟨_, natInts (bitsOf sN), rfl, .inl ⟨HOK.out, sN, ?_, rfl⟩, by rw [natInts_length]; exact bitsOf_length sN, ?_, HB7.out⟩
  · rw [← HN.out, ← HEE.out]; exact HLS.out
  · rw [natInts_length]; exact ownsRow_base HO7.out HB5.out.size

end Go.Proofs.YtiooindlpinjhaaDoor
