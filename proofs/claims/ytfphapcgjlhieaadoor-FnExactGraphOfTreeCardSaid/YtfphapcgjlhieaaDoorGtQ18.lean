/- Walks: trees compared and marked. -/
import Derived.Test.YtfphapcgjlhieaaDoorGtQ17
import Derived.Deep.RegionHeld3
import Derived.Deep.RegionWith
namespace Go.Proofs.YtfphapcgjlhieaaDoor
open Go.RowKit

set_option maxRecDepth 100000 in
set_option maxHeartbeats 1000000 in
theorem eqPart_yes (a b : Int) (u v : Value) (xs : List Int) (w : World) (hx : Nums w 2 .i64 u xs) (hy : Nums w 2 .i64 v xs) :
    Calls Tryd.prog 54 #[.agg #[.int .i64 a, .int .i64 b, u], .agg #[.int .i64 a, .int .i64 b, v]] w fun e w' => e = .returned (.bool true) ∧ Below w.heap.size w w' := by
  obtain ⟨p, c, rfl, _⟩ := hx.shapeT
  obtain ⟨p', c', rfl, _⟩ := hy.shapeT
  obtain ⟨W, hW⟩ : ∃ W, W = (w.alloc (.cells #[.int .i64 a, .int .i64 b, .slice p xs.length c] 54)).alloc (.cells #[.int .i64 a, .int .i64 b, .slice p' xs.length c'] 54) := ⟨_, rfl⟩
  have hb0 : Below w.heap.size w W := by rw [hW]; exact (below_alloc w _).alloc (by rw [size_alloc]; omega) _
  obtain ⟨x0, x1, x2⟩ : W.cell? ⟨w.heap.size, 0, none⟩ = some (.int .i64 a) ∧ W.cell? ⟨w.heap.size, 1, none⟩ = some (.int .i64 b) ∧ W.cell? ⟨w.heap.size, 2, none⟩ = some (.slice p xs.length c) := by
    rw [hW]; exact ((T3.new w _ _ _ _).alloc _).cells
  obtain ⟨y0, y1, y2⟩ : W.cell? ⟨w.heap.size + 1, 0, none⟩ = some (.int .i64 a) ∧ W.cell? ⟨w.heap.size + 1, 1, none⟩ = some (.int .i64 b) ∧ W.cell? ⟨w.heap.size + 1, 2, none⟩ = some (.slice p' xs.length c') := by
    rw [hW]
    have := (T3.new (w.alloc (.cells #[.int .i64 a, .int .i64 b, .slice p xs.length c] 54)) (.int .i64 a) (.int .i64 b) (.slice p' xs.length c') 54).cells
    rw [size_alloc] at this
    exact this
  have HX := Lib.hid (hx.below hb0)
  have HY := Lib.hid (hy.below hb0)
  have ha : (a != a) = false := by simp
  have hbb : (b != b) = false := by simp
  clear hx hy
  go_enter Tryd.func54, Tryd.ntmps54
  go_upto_region 1 with fail
  rw [← hW]
  clear hW
  go_wp2_with (go_at_call 117; refine (eqInt64S_any _ _ xs xs _ HX.out HY.out).mono ?_; rintro e w2 ⟨he, q, rfl⟩; rw [dec_true rfl] at he; subst he)
  go_ret
  exact ⟨rfl, below_dN hb0 _⟩

set_option maxRecDepth 100000 in
set_option maxHeartbeats 1000000 in
theorem eqPartS_yes (u v : Value) (ts : List Pt) (w : World) (hx : Trs w u ts) (hy : Trs w v ts) :
    Calls Tryd.prog 12 #[u, v] w fun e w' => e = .returned (.bool true) ∧ Below w.heap.size w w' := by
  obtain ⟨p, c, rfl, hn⟩ := hx.shape
  obtain ⟨p', c', rfl, _⟩ := hy.shape
  have HX := Lib.hid hx
  have HY := Lib.hid hy
  have hl : ((ts.length : Int) != (ts.length : Int)) = false := by simp
  clear hx hy
  go_enter Tryd.func12, Tryd.ntmps12
  go_wp2
  go_loopw [5] (fun i wr => ∃ k : Nat, k ≤ ts.length ∧ i = .int .i64 k ∧ Below w.heap.size w wr) (fun i _ => ts.length - (intOf i).toNat)
  case atStart => exact ⟨0, Nat.zero_le _, rfl, Below.refl _ _⟩
  case round =>
    obtain ⟨k, hk, rfl, hbel⟩ := hrel
    have HB := Lib.hid hbel
    by_cases hlt : k < ts.length
    · obtain ⟨⟨pk, pv, ps⟩, hp⟩ : ∃ p, ts[k]? = some p := ⟨_, List.getElem?_eq_getElem hlt⟩
      obtain ⟨b, o, rp, rc, rfl, c0, c1, c2, hkn, _⟩ := (HX.out.below hbel).at hp
      obtain ⟨b', o', rp', rc', rfl, d0, d1, d2, hkn', _⟩ := (HY.out.below hbel).at hp
      simp only at c0 c1 c2 hkn d0 d1 d2 hkn'
      have HA := Lib.hid hkn
      have HA' := Lib.hid hkn'
      have e0 : (0 : Int) ≤ (k : Int) := by omega
      have e1 : (k : Int) < (ts.length : Int) := by omega
      clear hkn hkn' hp hbel
      go_upto_region 6 with fail
      refine wp_region_held_drew (S := fun w' => w'.cell? ⟨b, o + k * 3, none⟩ = some (.int .i64 pk) ∧ w'.cell? ⟨b, o + k * 3 + 1, none⟩ = some (.int .i64 pv) ∧ w'.cell? ⟨b, o + k * 3 + 2, none⟩ = some (.slice rp ps.length rc) ∧ w'.cell? ⟨b', o' + k * 3, none⟩ = some (.int .i64 pk) ∧ w'.cell? ⟨b', o' + k * 3 + 1, none⟩ = some (.int .i64 pv) ∧ w'.cell? ⟨b', o' + k * 3 + 2, none⟩ = some (.slice rp' ps.length rc')) (by kernel_rfl) ?_ (fun hHeld => ?_)
      · exact ⟨c0, c1, c2, d0, d1, d2⟩
      refine wpAnyH_take (i := 0) (v := ?_) rfl (by kernel_rfl) (by kernel_rfl) (by kernel_rfl) (fun _ _ _ h => h) (Or.inl ⟨by rfl, ?_⟩) (by assumption) ?_
      rotate_left
      · intro wz hSw; (try dsimp only at hSw); go_simp; try rfl
      try simp only [Act.put, List.getElem_toArray, List.getElem_cons_succ, List.getElem_cons_zero, List.setIfInBounds_toArray, List.set_cons_zero, List.set_cons_succ]
      refine wpAnyH_take (i := 1) (v := ?_) rfl (by kernel_rfl) (by kernel_rfl) (by kernel_rfl) (fun _ _ _ h => h) (Or.inl ⟨by rfl, ?_⟩) (by assumption) ?_
      rotate_left
      · intro wz hSw; (try dsimp only at hSw); go_simp; try rfl
      try simp only [Act.put, List.getElem_toArray, List.getElem_cons_succ, List.getElem_cons_zero, List.setIfInBounds_toArray, List.set_cons_zero, List.set_cons_succ]
      refine wpAnyH_take (i := 2) (v := ?_) rfl (by kernel_rfl) (by kernel_rfl) (by kernel_rfl) (fun _ _ _ h => h) (Or.inl ⟨by rfl, ?_⟩) (by assumption) ?_
      rotate_left
      · intro wz hSw; (try dsimp only at hSw); go_simp; try rfl
      try simp only [Act.put, List.getElem_toArray, List.getElem_cons_succ, List.getElem_cons_zero, List.setIfInBounds_toArray, List.set_cons_zero, List.set_cons_succ]
      refine wpAnyH_take (i := 3) (v := ?_) rfl (by kernel_rfl) (by kernel_rfl) (by kernel_rfl) (fun _ _ _ h => h) (Or.inl ⟨by rfl, ?_⟩) (by assumption) ?_
      rotate_left
      · intro wz hSw; (try dsimp only at hSw); go_simp; try rfl
      try simp only [Act.put, List.getElem_toArray, List.getElem_cons_succ, List.getElem_cons_zero, List.setIfInBounds_toArray, List.set_cons_zero, List.set_cons_succ]
      refine wpAnyH_take (i := 4) (v := ?_) rfl (by kernel_rfl) (by kernel_rfl) (by kernel_rfl) (fun _ _ _ h => h) (Or.inl ⟨by rfl, ?_⟩) (by assumption) ?_
      rotate_left
      · intro wz hSw; (try dsimp only at hSw); go_simp; try rfl
      try simp only [Act.put, List.getElem_toArray, List.getElem_cons_succ, List.getElem_cons_zero, List.setIfInBounds_toArray, List.set_cons_zero, List.set_cons_succ]
      refine wpAnyH_take (i := 5) (v := ?_) rfl (by kernel_rfl) (by kernel_rfl) (by kernel_rfl) (fun _ _ _ h => h) (Or.inl ⟨by rfl, ?_⟩) (by assumption) ?_
      rotate_left
      · intro wz hSw; (try dsimp only at hSw); go_simp; try rfl
      try simp only [Act.put, List.getElem_toArray, List.getElem_cons_succ, List.getElem_cons_zero, List.setIfInBounds_toArray, List.set_cons_zero, List.set_cons_succ]
      refine wpAnyH_take (i := 6) (v := ?_) rfl (by kernel_rfl) (by kernel_rfl) (by kernel_rfl) (fun _ _ _ h => h) (Or.inl ⟨by rfl, ?_⟩) (by assumption) ?_
      rotate_left
      · intro wz hSw; (try dsimp only at hSw); go_simp; try rfl
      try simp only [Act.put, List.getElem_toArray, List.getElem_cons_succ, List.getElem_cons_zero, List.setIfInBounds_toArray, List.set_cons_zero, List.set_cons_succ]
      refine wpAnyH_take (i := 7) (v := ?_) rfl (by kernel_rfl) (by kernel_rfl) (by kernel_rfl) (fun _ _ _ h => h) (Or.inl ⟨by rfl, ?_⟩) (by assumption) ?_
      rotate_left
      · intro wz hSw; (try dsimp only at hSw); go_simp; try rfl
      try simp only [Act.put, List.getElem_toArray, List.getElem_cons_succ, List.getElem_cons_zero, List.setIfInBounds_toArray, List.set_cons_zero, List.set_cons_succ]
      refine wpAnyH_ready (rs := [8]) (by kernel_rfl) (by simp) ?_
      refine AllReadyH.cons rfl (fun K hK => ?_) AllReadyH.nil
      go_simp
      go_at_call 54
      refine (eqPart_yes pk pv _ _ ps _ (HA.out.below (below_dN (Below.refl _ _) 1)) (HA'.out.below (below_dN (Below.refl _ _) 1))).mono ?_
      rintro e w2 ⟨rfl, hb⟩
      have hb2 : Below wr.heap.size wr w2 := (below_dN (Below.refl _ _) 1).trans hb
      clear hb
      refine hK.out _ _ ?_ (fun hHeld => ?_)
      · exact ⟨hb2.at' c0, hb2.at' c1, hb2.at' c2, hb2.at' d0, hb2.at' d1, hb2.at' d2⟩
      clear hK K
      try simp only [Act.put, List.getElem_toArray, List.getElem_cons_succ, List.getElem_cons_zero, List.setIfInBounds_toArray, List.set_cons_zero, List.set_cons_succ]
      refine wpAnyH_take (i := 9) (v := ?_) rfl (by kernel_rfl) (by kernel_rfl) (by kernel_rfl) (fun _ _ _ h => h) (Or.inl ⟨by rfl, ?_⟩) (by assumption) ?_
      rotate_left
      · intro wz hSw; (try dsimp only at hSw); go_simp; try rfl
      try simp only [Act.put, List.getElem_toArray, List.getElem_cons_succ, List.getElem_cons_zero, List.setIfInBounds_toArray, List.set_cons_zero, List.set_cons_succ]
      refine wpAnyH_done (by kernel_rfl) ?_ _
      go_wp2
      go_roundw
      case rel => exact ⟨k + 1, by omega, by go_num, HB.out.trans (hb2.mono HB.out.size)⟩
      case measure => simp [intOf]; omega
    · obtain rfl : k = ts.length := by omega
      clear hbel
      go_wp2
      go_ret
      exact ⟨rfl, HB.out⟩

theorem Apart.setTe {lo hi : Nat} (w : World) {b i : Nat} (h1 : lo ≤ b) (h2 : b < hi) (u : Value) : Apart lo hi w (w.setCell ⟨b, i, none⟩ u) :=
  have h := (Below.refl b w).setCell (p := ⟨b, i, none⟩) (Nat.le_refl _) u
  ⟨h.os, h.tape, h.output, h.size, fun c _ hc => Below.heap_setCell _ _ _ _ (by show c ≠ b; omega)⟩
/-- Nodes in blocks from lo on and below hi. -/
def InPs (w : World) (lo hi : Nat) (v : Value) (ts : List Pt) : Prop :=
  ∃ us, us.length = ts.length ∧ w.ownsRow lo 54 3 v ts.length (ptCells ts us) ∧ (∀ b, v.ownBlock = some b → b < hi) ∧
    ∀ (j : Nat) (q : Pt), ts[j]? = some q → w.ownsRow lo 2 1 (us.getD j undef) q.s.length (q.s.map (Value.int .i64)) ∧ ∀ b, (us.getD j undef).ownBlock = some b → b < hi
theorem InPs.of_own {w : World} {lo : Nat} {u : Value} {ts : List Pt} (h : OwnPs w lo u ts) : InPs w lo w.heap.size u ts := by
  obtain ⟨us, h1, h2, h3⟩ := h
  exact ⟨us, h1, h2, fun b hb => (h2.lt b hb).2, fun j q hq => ⟨h3 j q hq, fun b hb => ((h3 j q hq).lt b hb).2⟩⟩
theorem InPs.below {w w' : World} {lo hi : Nat} {u : Value} {ts : List Pt} (h : InPs w lo hi u ts) (hb : Below w.heap.size w w') : InPs w' lo hi u ts := by
  obtain ⟨us, h1, h2, h3, h4⟩ := h
  exact ⟨us, h1, ownsRow_below h2 hb, h3, fun j q hq => ⟨ownsRow_below (h4 j q hq).1 hb, (h4 j q hq).2⟩⟩
theorem InPs.own {w : World} {lo hi : Nat} {u : Value} {ts : List Pt} (h : InPs w lo hi u ts) : OwnPs w lo u ts := by
  obtain ⟨us, h1, h2, h3, h4⟩ := h
  exact ⟨us, h1, h2, fun j q hq => (h4 j q hq).1⟩
theorem InPs.apart_hi {w w' : World} {lo hi lo' hi' : Nat} {u : Value} {ts : List Pt} (h : InPs w lo hi u ts) (ha : Apart lo' hi' w w') (hl : hi' ≤ lo) : InPs w' lo hi u ts := by
  obtain ⟨us, h1, h2, h3, h4⟩ := h
  exact ⟨us, h1, ownsRow_apart_hi h2 ha hl, h3, fun j q hq => ⟨ownsRow_apart_hi (h4 j q hq).1 ha hl, (h4 j q hq).2⟩⟩

set_option maxRecDepth 100000 in
set_option maxHeartbeats 2000000 in
theorem markPartS_k (v : Value) (ts : List Pt) (base hi : Nat) (k : Int) (hs : SzP ts) (h0 : 0 ≤ k) (K : Int) (hk1 : k ≤ K) (hK : K ≤ 100000000000000) (w : World) (h : InPs w base hi v ts) :
    Calls Tryd.prog 13 #[v, .int .i64 k] w fun e w' => (∃ z : Int, e = .returned (.int .i64 z) ∧ 0 ≤ z ∧ z ≤ K + 1100000000000) ∧ Apart base hi w w' := by
  obtain ⟨us, hul, ho, hvb, hr⟩ := h
  have hl := hs.1
  rcases ho.2 with ⟨rfl, hn0⟩ | ⟨b, cap, cur, rfl, _⟩
  · have e0 : ((ts.length : Nat) : Int) = 0 := by omega
    clear hr ho hvb
    go_enter Tryd.func13, Tryd.ntmps13
    go_wp2
    refine wp_loop_rounds 1 ?_
    rw [rounds_succ]
    go_wp2
    go_ret
    exact ⟨⟨k, rfl, h0, by omega⟩, Apart.refl _ _ _⟩
  have hbh : b < hi := hvb b rfl
  have hbl : base ≤ b := (ho.lt b rfl).1
  have START : Hid (∃ cs : List Value, w.ownsRow base 54 3 (.slice (some ⟨b, 0, none⟩) ts.length cap) ts.length cs ∧ ∀ i, i < ts.length → cs[i * 3 + 2]? = some (us.getD i undef)) :=
    Lib.hid ⟨_, ho, fun i hi => (ptCells_get hul (List.getElem?_eq_getElem hi)).2.2⟩
  have HR := Lib.hid hr
  have HS := Lib.hid hs.2
  clear hr ho hs hvb
  go_enter Tryd.func13, Tryd.ntmps13
  go_wp2
  go_loopw [1, 5] (fun z i wr => ∃ (j : Nat) (y : Int) (cs : List Value), j ≤ ts.length ∧ i = .int .i64 j ∧ z = .int .i64 y ∧ 0 ≤ y ∧ y ≤ K + j * 1048578 ∧ Apart base hi w wr ∧
      wr.ownsRow base 54 3 (.slice (some ⟨b, 0, none⟩) ts.length cap) ts.length cs ∧ (∀ i, i < ts.length → cs[i * 3 + 2]? = some (us.getD i undef)) ∧ (∀ (j : Nat) (q : Pt), ts[j]? = some q → ∃ ys, wr.ownsRow base 2 1 (us.getD j undef) q.s.length ys))
    (fun _ i _ => ts.length - (intOf i).toNat)
  case atStart =>
    obtain ⟨cs, h1, h2⟩ := START.out
    exact ⟨0, k, cs, Nat.zero_le _, rfl, rfl, h0, by omega, Apart.refl _ _ _, h1, h2, fun j q hq => ⟨_, (HR.out j q hq).1⟩⟩
  case round =>
    clear START
    obtain ⟨j, y, cs, hj, rfl, rfl, hy0, hy1, hap, hown, hcs, hrows⟩ := hrel
    have Hrows := Lib.hid hrows
    have HCS := Lib.hid hcs
    have HAP := Lib.hid hap
    have HO := Lib.hid hown
    clear hrows hap
    by_cases hlt : j < ts.length
    · obtain ⟨⟨pk, pv, ps⟩, hp⟩ : ∃ p, ts[j]? = some p := ⟨_, List.getElem?_eq_getElem hlt⟩
      have HP := Lib.hid hp
      obtain ⟨ys, hys⟩ := Hrows.out j _ hp
      have hl2 := HS.out j _ hp
      have hub := (HR.out j _ hp).2
      simp only at hys hl2
      obtain ⟨u, hu⟩ : ∃ u, us.getD j undef = u := ⟨_, rfl⟩
      have hcl : cs.length = ts.length * 3 := hown.1
      obtain ⟨o0, ho0⟩ : ∃ x, cs[j * 3]? = some x := ⟨_, List.getElem?_eq_getElem (by omega)⟩
      obtain ⟨o1, ho1⟩ : ∃ x, cs[j * 3 + 1]? = some x := ⟨_, List.getElem?_eq_getElem (by omega)⟩
      have c0 := hown.cellAt (j * 3) (by omega)
      have c1 := hown.cellAt (j * 3 + 1) (by omega)
      have c2 := hown.cellAt (j * 3 + 2) (by omega)
      have f0 := hown.frozenAt (j * 3)
      have f1 := hown.frozenAt (j * 3 + 1)
      rw [ho0] at c0
      rw [ho1] at c1
      rw [hcs j hlt, hu] at c2
      rw [hu] at hys hub
      obtain ⟨s1, g1⟩ := hown.stored (j * 3) (.int .i64 y)
      obtain ⟨s2, g2⟩ := s1.stored (j * 3 + 1) (.int .i64 (y + 1))
      have a1 := Apart.setTe (lo := base) (hi := hi) wr (i := j * 3) hbl hbh (.int .i64 y)
      have a2 := Apart.setTe (lo := base) (hi := hi) (wr.setCell ⟨b, j * 3, none⟩ (.int .i64 y)) (i := j * 3 + 1) hbl hbh (.int .i64 (y + 1))
      have S2 := Lib.hid s2
      have A2 := Lib.hid (a1.trans a2)
      have KEEP : Hid (∀ (x : Value) (n base : Nat) (ys : List Value), wr.ownsRow base 2 1 x n ys → ((wr.setCell ⟨b, j * 3, none⟩ (.int .i64 y)).setCell ⟨b, j * 3 + 1, none⟩ (.int .i64 (y + 1))).ownsRow base 2 1 x n ys) :=
        Lib.hid fun x n base ys h => ownsRow_other (ownsRow_other h hown g1 (by decide)) s1 g2 (by decide)
      have HYS := Lib.hid (KEEP.out _ _ _ _ hys)
      have HUB := Lib.hid hub
      have HU := Lib.hid hu
      have hps : ((ps.length : Nat) : Int) ≤ 1048576 := by omega
      clear s1 s2 g1 g2 a1 a2 hys hub hu ho0 ho1 hp hcs hown hcl
      go_wp2_with (go_at_call 55; refine (markInt64S_any u ps.length base ys (y + 1 + 1) (by omega) (by omega) (by omega) _ HYS.out).mono ?_; rintro e w2 ⟨rfl, ho2, hg2, _⟩)
      go_roundw
      case rel =>
        refine ⟨j + 1, _, _, by omega, by go_num, rfl, by omega, by omega, HAP.out.trans (A2.out.trans (Apart.of_grown HYS.out hg2 (Nat.le_refl _) HUB.out)), ownsRow_other S2.out HYS.out hg2 (by decide), fun i hi => ?_, fun i q hq => ?_⟩
        · rw [List.getElem?_set_ne (by omega), List.getElem?_set_ne (by omega)]
          exact HCS.out i hi
        · obtain ⟨zs, hzs⟩ := Hrows.out i q hq
          exact ownsRow_some (KEEP.out _ _ _ _ hzs) HYS.out ho2 hg2
      case measure => simp [intOf]; omega
    · obtain rfl : j = ts.length := by omega
      clear hown hcs
      go_wp2
      go_ret
      exact ⟨⟨y, rfl, hy0, by omega⟩, HAP.out⟩

end Go.Proofs.YtfphapcgjlhieaaDoor
