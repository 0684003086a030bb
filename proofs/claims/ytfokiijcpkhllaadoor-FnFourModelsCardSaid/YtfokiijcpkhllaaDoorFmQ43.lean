/- Walks: the reference's sets of a word. -/
import Derived.Test.YtfokiijcpkhllaaDoorFmQ42
import Derived.Test.YtfokiijcpkhllaaDoorFmQ13
import Derived.Test.YtfokiijcpkhllaaDoorFmQ28
namespace Go.Proofs.YtfokiijcpkhllaaDoor
open Go.RowKit

theorem ownsRow_apart {w w' : World} {base : Nat} {E : TypeId} {size n : Nat} {v : Value} {xs : List Value} {r : Option Nat} (h : w.ownsRow base E size v n xs) (hg : w.grownBy w' r) (hne : ∀ k, v.ownBlock = some k → some k ≠ r) : w'.ownsRow base E size v n xs := by
  refine ⟨h.1, ?_⟩
  rcases h.2 with h2 | ⟨g, cap, cur, rfl, h2, h3, h4⟩
  · exact .inl h2
  · exact .inr ⟨g, cap, cur, rfl, h2, (hg.block g (Array.getElem?_eq_some_iff.1 h3).1 (hne g rfl)).trans h3, h4⟩
/-- A row is put in the place of one, behind an append to that one. -/
theorem Dis.app {wr w7 W : World} {base u : Nat} {g : List (List Int)} {vals : List Value} {nv : Value} {s : List Int} (h : Dis wr base g.length vals g) (hl : vals.length = g.length) (hu : u < g.length) (hg : wr.grownBy w7 (vals.getD u undef).ownBlock)
    (hn : w7.ownsRow base 2 1 nv s.length (s.map (Value.int .i64))) (hbk : ∀ k, nv.ownBlock = some k → (vals.getD u undef).ownBlock = some k ∨ wr.heap.size ≤ k)
    (hW : ∀ v n (xs : List Value), w7.ownsRow base 2 1 v n xs → W.ownsRow base 2 1 v n xs) : Dis W base g.length (vals.set u nv) (g.set u s) := by
  have e1 : ∀ j, j ≠ u → (vals.set u nv).getD j undef = vals.getD j undef := fun j hj => by simp [show ¬ u = j from fun q => hj q.symm]
  have e2 : (vals.set u nv).getD u undef = nv := by simp [hl, hu]
  refine ⟨fun j hj => ?_, fun i j hi hj hne b hbi => ?_⟩
  · rw [row_set _ _ _ _ hu]
    by_cases e : j = u
    · subst e
      rw [if_pos rfl, e2]
      exact hW _ _ _ hn
    · rw [if_neg e, e1 j e]
      exact hW _ _ _ (ownsRow_apart (h.rows j hj) hg fun k hk e2 => h.dis j u hj hu e k hk e2.symm)
  · by_cases ei : i = u
    · subst ei
      rw [e2] at hbi
      rw [e1 j (fun e => hne e.symm)]
      intro hc
      rcases hbk b hbi with h5 | h5
      · exact h.dis i j hi hj hne b h5 hc
      · have := ((h.rows j hj).lt b hc).2
        omega
    · rw [e1 i ei] at hbi
      by_cases ej : j = u
      · subst ej
        rw [e2]
        intro hc
        rcases hbk b hc with h5 | h5
        · exact h.dis i j hi hj hne b hbi h5
        · have := ((h.rows i hi).lt b hbi).2
          omega
      · rw [e1 j ej]
        exact h.dis i j hi hj hne b hbi

theorem setsW_snoc_zero (m : Nat) (w : List Nat) : setsW m (w ++ [0]) = setsW m w := by
  unfold setsW
  refine List.map_congr_left fun k _ => ?_
  rw [setW_snoc, if_neg (by omega)]
theorem setsW_snoc_put {m x : Nat} (hx : x < m) (w : List Nat) : setsW m (w ++ [x + 1]) = (setsW m w).set x (row (setsW m w) x ++ [(w.length : Int)]) := by
  refine graph_ext (by simp [setsW]) fun j hj => ?_
  rw [setsW_length] at hj
  rw [row_set _ _ _ _ (by rw [setsW_length]; exact hx), row_setsW hj, setW_snoc]
  by_cases e : j = x
  · subst e
    rw [if_pos rfl, if_pos rfl, row_setsW hj]
    simp [natInts]
  · rw [if_neg (by omega), if_neg e, row_setsW hj]
theorem row_setsW_le {m : Nat} (w : List Nat) (j : Nat) : (row (setsW m w) j).length ≤ w.length := by
  by_cases h : j < m
  · rw [row_setsW h, natInts_length]
    have := List.length_filter_le (fun v => w.getD v 0 == j + 1) (List.range w.length)
    rw [List.length_range] at this
    exact this
  · simp [row, setsW, h]

/-- The state of the sets while the word is read. -/
structure StI (w wr : World) (ob bb m : Nat) (gg : List (List Int)) (vals : List Value) : Prop where
  gl : gg.length = m
  len : vals.length = gg.length
  own : wr.ownsRow (w.heap.size + 1) 32 1 (.slice (some ⟨ob, 0, none⟩) m m) m vals
  rows : Dis wr (w.heap.size + 1) gg.length vals gg
  res : Box wr w.heap.size 49 (.slice none 0 0)
  box : Box wr bb 49 (.slice (some ⟨ob, 0, none⟩) m m)
  bel : Below w.heap.size w wr
  lo : w.heap.size + 1 ≤ ob
  lb : ob < bb

theorem box_apart {w : World} {b base : Nat} {T E : TypeId} {x v : Value} {size n : Nat} {xs : List Value} (h : Box w b T x) (ho : w.ownsRow base E size v n xs) (hE : T ≠ E) : some b ≠ v.ownBlock := by
  intro e
  rcases ho.2 with ⟨rfl, _⟩ | ⟨g, cap, cur, rfl, _, h3, _⟩
  · simp [Value.ownBlock] at e
  · simp [Value.ownBlock] at e
    subst e
    have := h.blk
    rw [h3] at this
    simp only [Option.some.injEq, Obj.cells.injEq] at this
    exact hE this.2.1.symm
theorem StI.app {w wr w7 : World} {ob bb m : Nat} {gg : List (List Int)} {vals : List Value} (h : StI w wr ob bb m gg vals) {y : Nat} (hy : y < m) (hg : wr.grownBy w7 (vals.getD y undef).ownBlock) :
    Box w7 bb 49 (.slice (some ⟨ob, 0, none⟩) m m) ∧ Box w7 w.heap.size 49 (.slice none 0 0) ∧ w7.ownsRow (w.heap.size + 1) 32 1 (.slice (some ⟨ob, 0, none⟩) m m) m vals ∧ Below w.heap.size w w7 := by
  have hr := h.rows.rows y (by rw [h.gl]; exact hy)
  exact ⟨h.box.grown hg (box_apart h.box hr (by decide)), h.res.grown hg (box_apart h.res hr (by decide)), ownsRow_other h.own hr hg (by decide), h.bel.grown hg h.bel.size fun k hk => by have := (hr.lt k hk).1; omega⟩
theorem StI.put {w wr w7 : World} {ob bb m : Nat} {gg : List (List Int)} {vals : List Value} (h : StI w wr ob bb m gg vals) {y : Nat} (hy : y < m) (hg : wr.grownBy w7 (vals.getD y undef).ownBlock) {b c : Nat} {z : Int}
    (ho : w7.ownsRow (w.heap.size + 1) 2 1 (.slice (some ⟨b, 0, none⟩) ((row gg y).length + 1) c) ((row gg y).length + 1) ((row gg y).map (Value.int .i64) ++ [.int .i64 z])) (hbk : (vals.getD y undef).ownBlock = some b ∨ wr.heap.size ≤ b) :
    StI w (w7.setCell ⟨ob, y, none⟩ (.slice (some ⟨b, 0, none⟩) ((row gg y).length + 1) c)) ob bb m (gg.set y (row gg y ++ [z])) (vals.set y (.slice (some ⟨b, 0, none⟩) ((row gg y).length + 1) c)) := by
  obtain ⟨h1, h2, h3, h4⟩ := h.app hy hg
  have hst := h3.stored y (.slice (some ⟨b, 0, none⟩) ((row gg y).length + 1) c)
  have hlb := h.lb
  have hlo := h.lo
  refine ⟨by rw [List.length_set, h.gl], by rw [List.length_set, List.length_set, h.len], hst.1, ?_, h2.setOther (by show w.heap.size ≠ ob; omega) _, h1.setOther (by show bb ≠ ob; omega) _, h4.setCell (by show w.heap.size ≤ ob; omega) _, hlo, hlb⟩
  rw [List.length_set]
  exact h.rows.app h.len (by rw [h.gl]; exact hy) hg (by rw [List.length_append, List.length_singleton, List.map_append]; exact ho) (fun k hk => by
    simp only [Value.ownBlock, Option.some.injEq] at hk
    subst hk
    exact hbk) fun v n xs hx => ownsRow_other hx h3 hst.2 (by decide)

set_option maxRecDepth 100000 in
set_option maxHeartbeats 4000000 in
theorem l21Sets_any (v : Value) (wd : List Nat) (z : Int) (m : Nat) (hz : z = m) (hm : m ≤ 1000) (hwl : wd.length ≤ 1000) (hwm : ∀ x ∈ wd, x ≤ m) (w : World) (hn : Nums w 2 .i64 v (natInts wd)) :
    Calls Tryd.prog 87 #[v, .int .i64 z] w fun e w' => ∃ u, e = .returned u ∧ DG w' w.heap.size u (setsW m wd) ∧ Below w.heap.size w w' := by
  subst hz
  obtain ⟨p, c, rfl, _⟩ := id hn.shape
  have HN := Lib.hid hn
  rw [natInts_length] at HN ⊢
  have HWM := Lib.hid hwm
  have hbA := Lib.hid (below_alloc w (.cells #[.slice none 0 0] 49))
  have RES := Lib.hid (Box.new w (.slice none 0 0) 49)
  obtain ⟨wl, hwl2⟩ : ∃ wl, wl = wd.length := ⟨_, rfl⟩
  rw [← hwl2] at HN hwl ⊢
  have HL := Lib.hid hwl2
  clear hn hwm hwl2
  go_enter Tryd.func87, Tryd.ntmps87
  go_upto_region 2 with (at_make; refine wpList_mk ty_rows rfl rfl rfl m rfl rfl rfl rfl (by omega) ?_; intro w4 hown4 hg4)
  have hb4 := grown_below hg4
  rw [size_alloc] at hown4
  have START : Hid (StI w (w4.alloc (.cells #[.slice (some ⟨w.heap.size + 1, 0, none⟩) m m] 49)) (w.heap.size + 1) w4.heap.size m (setsW m (wd.take 0)) (List.replicate m (.slice none 0 0))) := Lib.hid (by
    refine ⟨setsW_length _ _, by rw [List.length_replicate, setsW_length], hown4.alloc _, ⟨fun j hj => ?_, fun i j hi _ _ b hb => ?_⟩, (RES.out.keep hb4).alloc _, Box.new _ _ _, (hbA.out.trans (hb4.mono hbA.out.size)).alloc (Nat.le_trans hbA.out.size hb4.size) _, Nat.le_refl _, (hown4.lt _ rfl).2⟩
    · rw [setsW_length] at hj
      rw [row_setsW hj, show setW (wd.take 0) j = [] from by simp [setW]]
      have : (List.replicate m (Value.slice none 0 0)).getD j undef = .slice none 0 0 := by simp [List.getD_eq_getElem?_getD, List.getElem?_replicate, hj]
      rw [this]
      exact World.ownsRow_nil _ _ _ _
    · rw [setsW_length] at hi
      have : (List.replicate m (Value.slice none 0 0)).getD i undef = .slice none 0 0 := by simp [List.getD_eq_getElem?_getD, List.getElem?_replicate, hi]
      rw [this] at hb
      simp [Value.ownBlock] at hb)
  obtain ⟨bb, hbb⟩ : ∃ bb, bb = w4.heap.size := ⟨_, rfl⟩
  rw [← hbb] at START ⊢
  clear hb4 hg4 hown4 hbb
  go_wp2_with fail
  go_loopw [6] (fun iv wr => ∃ (k : Nat) (vals : List Value), k ≤ wl ∧ iv = .int .i64 k ∧ Hid (StI w wr (w.heap.size + 1) bb m (setsW m (wd.take k)) vals)) (fun iv _ => wl - (intOf iv).toNat)
  case atStart => exact ⟨0, _, Nat.zero_le _, rfl, START⟩
  case round =>
    clear START
    obtain ⟨k, vals, hk, rfl, HS⟩ := hrel
    by_cases hlt : k < wl
    · have hltw : k < wd.length := by rw [← HL.out]; exact hlt
      obtain ⟨qb, qo, hq1, hq0⟩ := HN.out.get (k := k) (by rw [natInts_length]; exact hltw)
      subst hq1
      have HQ := Lib.hid hq0
      have hq := HS.out.bel.at' hq0
      have hxm := HWM.out _ (List.getElem_mem hltw)
      have HTK := Lib.hid (take_snoc' wd k hltw)
      have hq2 : (natInts wd)[k]'(by rw [natInts_length]; exact hltw) = ((wd[k]'hltw : Nat) : Int) := by simp [natInts]
      rw [hq2] at hq HQ
      have hlk : (wd.take k).length = k := by rw [List.length_take]; omega
      have HLK := Lib.hid hlk
      generalize wd[k]'hltw = x at hq HQ hxm HTK
      clear hq2 hq0 hlk
      cases x with
      | zero =>
        have HS2 : Hid (StI w wr (w.heap.size + 1) bb m (setsW m (wd.take (k + 1))) vals) := Lib.hid (by rw [HTK.out, setsW_snoc_zero]; exact HS.out)
        go_wp2_with fail
        go_roundw
        case rel => exact ⟨k + 1, vals, by omega, by go_num, HS2⟩
        case measure => simp [intOf]; omega
      | succ y =>
        have hym : y < m := by omega
        have hq3 : wr.cell? ⟨qb, qo + k, none⟩ = some (.int .i64 ((y : Int) + 1)) := by rw [hq]; simp
        replace HQ : Hid (w.cell? ⟨qb, qo + k, none⟩ = some (.int .i64 ((y : Int) + 1))) := Lib.hid (by rw [HQ.out]; simp)
        have hrow := HS.out.rows.rows y (by rw [HS.out.gl]; exact hym)
        obtain ⟨rp, rc, hrv⟩ := owns_shapeK hrow
        have HROW := Lib.hid hrow
        have hcv := HS.out.own.cellAt y (by omega)
        rw [get_getD vals y undef (by rw [HS.out.len, HS.out.gl]; exact hym)] at hcv
        have hfv := HS.out.own.frozenAt y
        have hbx := HS.out.box.cell
        have hrl := row_setsW_le (m := m) (wd.take k) y
        rw [HLK.out] at hrl
        have HAPP := Lib.hid (fun w7 hg => HS.out.app (w7 := w7) hym hg)
        have HPUT : Hid (∀ (w7 : World) (b c : Nat) (hg : wr.grownBy w7 (vals.getD y undef).ownBlock) (ho : w7.ownsRow (w.heap.size + 1) 2 1 (.slice (some ⟨b, 0, none⟩) ((row (setsW m (wd.take k)) y).length + 1) c) ((row (setsW m (wd.take k)) y).length + 1) ((row (setsW m (wd.take k)) y).map (Value.int .i64) ++ [.int .i64 (k : Int)])) (hbk : (vals.getD y undef).ownBlock = some b ∨ wr.heap.size ≤ b),
            StI w (w7.setCell ⟨w.heap.size + 1, y, none⟩ (.slice (some ⟨b, 0, none⟩) ((row (setsW m (wd.take k)) y).length + 1) c)) (w.heap.size + 1) bb m (setsW m (wd.take (k + 1))) (vals.set y (.slice (some ⟨b, 0, none⟩) ((row (setsW m (wd.take k)) y).length + 1) c))) := Lib.hid (fun w7 b c hg ho hbk => by
          rw [HTK.out, setsW_snoc_put hym, HLK.out]
          exact HS.out.put hym hg ho hbk)
        generalize row (setsW m (wd.take k)) y = ry at hrow HROW hrl HPUT hrv
        rw [hrv] at hcv HROW HAPP HPUT
        obtain ⟨rl, hrl2⟩ : ∃ rl, rl = ry.length := ⟨_, rfl⟩
        rw [← hrl2] at hcv HROW HAPP HPUT hrl hrv
        have HRV := Lib.hid hrv
        have HVL : Hid (y < vals.length) := Lib.hid (by rw [HS.out.len, HS.out.gl]; exact hym)
        have hwr1 : IntKind.i64.wrap ((y : Int) + 1 - 1) = (y : Int) := by rw [IntKind.wrap_i64]; omega
        have hwr2 : IntKind.i64.wrap (y : Int) = (y : Int) := by rw [IntKind.wrap_i64]; omega
        have hpos : (0 : Int) < (y : Int) + 1 := by omega
        have hrl9 : rl < 1000000000 := by omega
        have hlow : w.heap.size + 1 ≤ wr.heap.size := (Nat.le_of_lt (HS.out.own.lt (w.heap.size + 1) rfl).2)
        have hcva := fun o => (below_alloc wr o).at' hcv
        have hbxa := fun o => (below_alloc wr o).at' hbx
        have hqa := fun o => (below_alloc wr o).at' hq3
        clear hrow hrv hq hrl2
        go_upto_region 6 with fail
        refine wp_region_stg [(20, fun w' => w'.cell? ⟨bb, 0, none⟩ = some (.slice (some ⟨w.heap.size + 1, 0, none⟩) m m)), (20, fun w' => w'.cell? ⟨qb, qo + k, none⟩ = some (.int .i64 ((y : Int) + 1))), (18, fun w' => w'.cell? ⟨w.heap.size + 1, y, none⟩ = some (.slice rp rl rc))] (by kernel_rfl) ?_ (fun hHeld => ?_)
        · exact .keep hbx (.keep hq3 (.keep hcv .nil))
        refine wpStg_pure (i := 0) (v := .pointer (some ⟨bb, 0, none⟩)) rfl (by kernel_rfl) (by kernel_rfl) (by kernel_rfl) (by kernel_rfl) (fun _ _ _ h => h) (Or.inl ⟨by rfl, ?_⟩) (by assumption) ?_
        · intro wz _; go_simp; try rfl
        try simp only [Act.put, List.getElem_toArray, List.getElem_cons_succ, List.getElem_cons_zero, List.setIfInBounds_toArray, List.set_cons_zero, List.set_cons_succ]
        refine wpStg_take (m := 0) (i := 1) (v := .slice (some ⟨w.heap.size + 1, 0, none⟩) m m) rfl rfl (by kernel_rfl) (by kernel_rfl) (by kernel_rfl) (by kernel_rfl) (by kernel_rfl) (by kernel_rfl) (fun _ _ _ h => h) (Or.inl ⟨by rfl, ?_⟩) (by assumption) ?_
        · intro wz hSw; (try dsimp only at hSw); go_simp; try rfl
        try simp only [Act.put, List.getElem_toArray, List.getElem_cons_succ, List.getElem_cons_zero, List.setIfInBounds_toArray, List.set_cons_zero, List.set_cons_succ]
        refine wpStg_pure (i := 2) (v := .slice (some ⟨qb, qo, none⟩) wl c) rfl (by kernel_rfl) (by kernel_rfl) (by kernel_rfl) (by kernel_rfl) (fun _ _ _ h => h) (Or.inl ⟨by rfl, ?_⟩) (by assumption) ?_
        · intro wz _; go_simp; try rfl
        try simp only [Act.put, List.getElem_toArray, List.getElem_cons_succ, List.getElem_cons_zero, List.setIfInBounds_toArray, List.set_cons_zero, List.set_cons_succ]
        refine wpStg_pure (i := 3) (v := .int .i64 (k : Int)) rfl (by kernel_rfl) (by kernel_rfl) (by kernel_rfl) (by kernel_rfl) (fun _ _ _ h => h) (Or.inl ⟨by rfl, ?_⟩) (by assumption) ?_
        · intro wz _; go_simp; try rfl
        try simp only [Act.put, List.getElem_toArray, List.getElem_cons_succ, List.getElem_cons_zero, List.setIfInBounds_toArray, List.set_cons_zero, List.set_cons_succ]
        refine wpStg_pure (i := 4) (v := .pointer (some ⟨qb, qo + k, none⟩)) rfl (by kernel_rfl) (by kernel_rfl) (by kernel_rfl) (by kernel_rfl) (fun _ _ _ h => h) (Or.inl ⟨by rfl, ?_⟩) (by assumption) ?_
        · intro wz _; go_simp; try rfl
        try simp only [Act.put, List.getElem_toArray, List.getElem_cons_succ, List.getElem_cons_zero, List.setIfInBounds_toArray, List.set_cons_zero, List.set_cons_succ]
        refine wpStg_take (m := 1) (i := 5) (v := .int .i64 ((y : Int) + 1)) rfl rfl (by kernel_rfl) (by kernel_rfl) (by kernel_rfl) (by kernel_rfl) (by kernel_rfl) (by kernel_rfl) (fun _ _ _ h => h) (Or.inl ⟨by rfl, ?_⟩) (by assumption) ?_
        · intro wz hSw; (try dsimp only at hSw); go_simp; try rfl
        try simp only [Act.put, List.getElem_toArray, List.getElem_cons_succ, List.getElem_cons_zero, List.setIfInBounds_toArray, List.set_cons_zero, List.set_cons_succ]
        refine wpStg_pure (i := 6) (v := .int .i64 (y : Int)) rfl (by kernel_rfl) (by kernel_rfl) (by kernel_rfl) (by kernel_rfl) (fun _ _ _ h => h) (Or.inl ⟨by rfl, ?_⟩) (by assumption) ?_
        · intro wz _; go_simp; try rfl
        try simp only [Act.put, List.getElem_toArray, List.getElem_cons_succ, List.getElem_cons_zero, List.setIfInBounds_toArray, List.set_cons_zero, List.set_cons_succ]
        refine wpStg_pure (i := 7) (v := .pointer (some ⟨bb, 0, none⟩)) rfl (by kernel_rfl) (by kernel_rfl) (by kernel_rfl) (by kernel_rfl) (fun _ _ _ h => h) (Or.inl ⟨by rfl, ?_⟩) (by assumption) ?_
        · intro wz _; go_simp; try rfl
        try simp only [Act.put, List.getElem_toArray, List.getElem_cons_succ, List.getElem_cons_zero, List.setIfInBounds_toArray, List.set_cons_zero, List.set_cons_succ]
        refine wpStg_take (m := 0) (i := 8) (v := .slice (some ⟨w.heap.size + 1, 0, none⟩) m m) rfl rfl (by kernel_rfl) (by kernel_rfl) (by kernel_rfl) (by kernel_rfl) (by kernel_rfl) (by kernel_rfl) (fun _ _ _ h => h) (Or.inl ⟨by rfl, ?_⟩) (by assumption) ?_
        · intro wz hSw; (try dsimp only at hSw); go_simp; try rfl
        try simp only [Act.put, List.getElem_toArray, List.getElem_cons_succ, List.getElem_cons_zero, List.setIfInBounds_toArray, List.set_cons_zero, List.set_cons_succ]
        refine wpStg_pure (i := 9) (v := .slice (some ⟨qb, qo, none⟩) wl c) rfl (by kernel_rfl) (by kernel_rfl) (by kernel_rfl) (by kernel_rfl) (fun _ _ _ h => h) (Or.inl ⟨by rfl, ?_⟩) (by assumption) ?_
        · intro wz _; go_simp; try rfl
        try simp only [Act.put, List.getElem_toArray, List.getElem_cons_succ, List.getElem_cons_zero, List.setIfInBounds_toArray, List.set_cons_zero, List.set_cons_succ]
        refine wpStg_pure (i := 10) (v := .int .i64 (k : Int)) rfl (by kernel_rfl) (by kernel_rfl) (by kernel_rfl) (by kernel_rfl) (fun _ _ _ h => h) (Or.inl ⟨by rfl, ?_⟩) (by assumption) ?_
        · intro wz _; go_simp; try rfl
        try simp only [Act.put, List.getElem_toArray, List.getElem_cons_succ, List.getElem_cons_zero, List.setIfInBounds_toArray, List.set_cons_zero, List.set_cons_succ]
        refine wpStg_pure (i := 11) (v := .pointer (some ⟨qb, qo + k, none⟩)) rfl (by kernel_rfl) (by kernel_rfl) (by kernel_rfl) (by kernel_rfl) (fun _ _ _ h => h) (Or.inl ⟨by rfl, ?_⟩) (by assumption) ?_
        · intro wz _; go_simp; try rfl
        try simp only [Act.put, List.getElem_toArray, List.getElem_cons_succ, List.getElem_cons_zero, List.setIfInBounds_toArray, List.set_cons_zero, List.set_cons_succ]
        refine wpStg_take (m := 1) (i := 12) (v := .int .i64 ((y : Int) + 1)) rfl rfl (by kernel_rfl) (by kernel_rfl) (by kernel_rfl) (by kernel_rfl) (by kernel_rfl) (by kernel_rfl) (fun _ _ _ h => h) (Or.inl ⟨by rfl, ?_⟩) (by assumption) ?_
        · intro wz hSw; (try dsimp only at hSw); go_simp; try rfl
        try simp only [Act.put, List.getElem_toArray, List.getElem_cons_succ, List.getElem_cons_zero, List.setIfInBounds_toArray, List.set_cons_zero, List.set_cons_succ]
        refine wpStg_pure (i := 13) (v := .int .i64 (y : Int)) rfl (by kernel_rfl) (by kernel_rfl) (by kernel_rfl) (by kernel_rfl) (fun _ _ _ h => h) (Or.inl ⟨by rfl, ?_⟩) (by assumption) ?_
        · intro wz _; go_simp; try rfl
        try simp only [Act.put, List.getElem_toArray, List.getElem_cons_succ, List.getElem_cons_zero, List.setIfInBounds_toArray, List.set_cons_zero, List.set_cons_succ]
        refine wpStg_pure (i := 14) (v := .pointer (some ⟨w.heap.size + 1, y, none⟩)) rfl (by kernel_rfl) (by kernel_rfl) (by kernel_rfl) (by kernel_rfl) (fun _ _ _ h => h) (Or.inl ⟨by rfl, ?_⟩) (by assumption) ?_
        · intro wz _; go_simp; try rfl
        try simp only [Act.put, List.getElem_toArray, List.getElem_cons_succ, List.getElem_cons_zero, List.setIfInBounds_toArray, List.set_cons_zero, List.set_cons_succ]
        refine wpStg_take (m := 2) (i := 15) (v := .slice rp rl rc) rfl rfl (by kernel_rfl) (by kernel_rfl) (by kernel_rfl) (by kernel_rfl) (by kernel_rfl) (by kernel_rfl) (fun _ _ _ h => h) (Or.inl ⟨by rfl, ?_⟩) (by assumption) ?_
        · intro wz hSw; (try dsimp only at hSw); go_simp; try rfl
        try simp only [Act.put, List.getElem_toArray, List.getElem_cons_succ, List.getElem_cons_zero, List.setIfInBounds_toArray, List.set_cons_zero, List.set_cons_succ]
        refine wpStg_pure (i := 16) (v := .int .i64 (k : Int)) rfl (by kernel_rfl) (by kernel_rfl) (by kernel_rfl) (by kernel_rfl) (fun _ _ _ h => h) (Or.inl ⟨by rfl, ?_⟩) (by assumption) ?_
        · intro wz _; go_simp; try rfl
        try simp only [Act.put, List.getElem_toArray, List.getElem_cons_succ, List.getElem_cons_zero, List.setIfInBounds_toArray, List.set_cons_zero, List.set_cons_succ]
        refine wpStg_one (i := 17) (by kernel_rfl) rfl (fun K hK => ?_)
        go_simp
        refine hK.out _ _ ?_ (fun hHeld => ?_)
        · exact .keep (hbxa _) (.keep (hqa _) (.keep (hcva _) .nil))
        clear hK K
        try simp only [Act.put, List.getElem_toArray, List.getElem_cons_succ, List.getElem_cons_zero, List.setIfInBounds_toArray, List.set_cons_zero, List.set_cons_succ]
        refine wpStg_one (i := 18) (by kernel_rfl) rfl (fun K hK => ?_)
        refine step_app1B (w := wr.drew) (s := .tmp 36) (x := .tmp 38) ty_i64 rfl rfl rfl HROW.out rfl rfl hrl9 hlow ?_
        intro b7 c8 w7 hown7 hg7 hbk7
        have HG7 : Hid (wr.grownBy w7 (Value.slice rp rl rc).ownBlock) := Lib.hid ⟨hg7.os, hg7.tape, hg7.output, hg7.size, hg7.block⟩
        have HA7 := Lib.hid (HAPP.out w7 HG7.out)
        have hx7 := HA7.out.1.cell
        have hq7 := HA7.out.2.2.2.at' HQ.out
        have hf7 := HA7.out.2.2.1.frozenAt y
        have hc7 : w7.cell? ⟨w.heap.size + 1, y, none⟩ = some (.slice rp rl rc) := (by have h9 := HA7.out.2.2.1.cellAt y (by omega); rw [get_getD vals y undef HVL.out, HRV.out] at h9; exact h9)
        have HP7 := Lib.hid (HPUT.out w7 b7 c8 HG7.out hown7 hbk7)
        clear hown7 hg7 hbk7
        refine hK.out _ _ ?_ (fun hHeld => ?_)
        · exact .keep hx7 (.keep hq7 (.skip (by kernel_rfl) .nil))
        clear hK K
        try simp only [Act.put, List.getElem_toArray, List.getElem_cons_succ, List.getElem_cons_zero, List.setIfInBounds_toArray, List.set_cons_zero, List.set_cons_succ]
        refine wpStg_pure (i := 19) (v := .pointer (some ⟨w.heap.size + 1, y, none⟩)) rfl (by kernel_rfl) (by kernel_rfl) (by kernel_rfl) (by kernel_rfl) (fun _ _ _ h => h) (Or.inl ⟨by rfl, ?_⟩) (by assumption) ?_
        · intro wz _; go_simp; try rfl
        try simp only [Act.put, List.getElem_toArray, List.getElem_cons_succ, List.getElem_cons_zero, List.setIfInBounds_toArray, List.set_cons_zero, List.set_cons_succ]
        refine wpStg_one (i := 20) (by kernel_rfl) rfl (fun K hK => ?_)
        go_simp
        refine hK.out _ _ ?_ (fun hHeld => ?_)
        · exact .skip (by kernel_rfl) (.skip (by kernel_rfl) (.skip (by kernel_rfl) .nil))
        clear hK K
        try simp only [Act.put, List.getElem_toArray, List.getElem_cons_succ, List.getElem_cons_zero, List.setIfInBounds_toArray, List.set_cons_zero, List.set_cons_succ]
        refine wpStg_done (by kernel_rfl) ?_ _
        go_wp2
        go_roundw
        case rel => exact ⟨k + 1, _, by omega, by go_num, HP7⟩
        case measure => simp [intOf]; omega
    · obtain rfl : k = wl := by omega
      have HS2 : Hid (StI w wr (w.heap.size + 1) bb m (setsW m wd) vals) := Lib.hid (by have := HS.out; rwa [HL.out, List.take_length] at this)
      have hbx := HS2.out.box.cell
      have hrs := HS2.out.res.cell
      have hrf := HS2.out.res.free
      clear HS
      go_wp2
      refine bodyPost_ret (v := .agg #[.slice (some ⟨w.heap.size + 1, 0, none⟩) m m]) (by simp [results, Tryd.results87, go_sem, hrs]) rfl ⟨_, rfl, ⟨_, vals, rfl, HS2.out.len, ?_, ⟨fun j hj => ?_, HS2.out.rows.dis⟩⟩, ?_⟩
      · rw [setsW_length]; exact ownsRow_base (ownsRow_setBox HS2.out.own HS2.out.res (by decide) _) (by omega)
      · exact ownsRow_base (ownsRow_setBox (HS2.out.rows.rows j hj) HS2.out.res (by decide) _) (by omega)
      · exact HS2.out.bel.setCell (by show w.heap.size ≤ w.heap.size; omega) _

end Go.Proofs.YtfokiijcpkhllaaDoor
