/- Walks: the reference's FoldedOf, SeriesIn, TwoOrder. -/
import Derived.Test.YtfokiijcpkhllaaDoorDsQ12
import Derived.Test.YtfokiijcpkhllaaDoorDsQ5
namespace Go.Proofs.YtfokiijcpkhllaaDoor
open Go.RowKit

end Go.Proofs.YtfokiijcpkhllaaDoor

/- Walks: the reference's SeriesIn. -/
namespace Go.Proofs.YtfokiijcpkhllaaDoor
open Go.RowKit

set_option maxRecDepth 100000 in
set_option maxHeartbeats 4000000 in
theorem specSeriesIn_any (v : Value) (g : List (List Int)) (w : World) (hg : Gr w v g) :
    Calls Tryd.prog 35 #[v] w fun e w' => e = .returned (.bool (dec (SerS g))) ∧ Below w.heap.size w w' := by
  have hg0 := hg
  obtain ⟨u, rfl, hr⟩ := hg
  obtain ⟨p, c, rfl, _, _, _⟩ := hr.shape
  have HG := Lib.hid hg0
  have hbA := Lib.hid (below_alloc w (.cells #[.slice p g.length c] 29))
  have BX := Lib.hid (Box.new w (.slice p g.length c) 29)
  clear hr hg0
  by_cases hok : GOk g
  case neg =>
    have hd := dec_false hok
    have Hok := Lib.hid hok
    clear hok
    go_enter Tryd.func35, Tryd.ntmps35
    go_wp2_with (go_at_call 50; refine (specGraphOk_any _ g _ (HG.out.below hbA.out)).mono ?_; rintro e w2 ⟨rfl, hb2⟩)
    go_ret
    exact ⟨by rw [dec_false (fun h => Hok.out h.1)]; rfl, hbA.out.trans (hb2.mono hbA.out.size)⟩
  have hd := dec_true hok
  have h16 := hok.le
  have Hrl := Lib.hid (gOk_row_le hok)
  have Hok := Lib.hid hok
  clear hok
  go_enter Tryd.func35, Tryd.ntmps35
  go_wp2_with fail
  go_wp2_with (go_at_call 50; refine (specGraphOk_any _ g _ (HG.out.below hbA.out)).mono ?_; rintro e w2 ⟨rfl, hb2⟩)
  have hb2' : Below w.heap.size w w2 := hbA.out.trans (hb2.mono hbA.out.size)
  have hg2 := Lib.hid (HG.out.below hb2')
  have hbx2 := (BX.out.keep hb2).cell
  have hlt2 := (BX.out.keep hb2).lt
  have hne2 : w.heap.size ≠ w2.heap.size := by omega
  have hne2' : w2.heap.size ≠ w.heap.size := by omega
  clear hb2
  go_cut [4] (fun s4 wx => ∃ (fs : List Fd) (l : List Int) (g' : List (List Int)), Folds g (allL g.length) fs l g' ∧ Nums wx 2 .i64 s4 l ∧ l.length ≤ 16 ∧ Below w2.heap.size w2 wx)
  case first =>
    go_region_held3 (fun w' => w'.cell? ⟨w.heap.size, 0, none⟩ = some (.slice p g.length c))
      (first | go_keep | exact hb5'.at' hbx2 | exact hb6'.at' hbx2 | exact (below_alloc _ _).at' (hb5'.at' hbx2) | exact (below_alloc _ _).at' (hb6'.at' hbx2) | exact (hb6'.setCell (p := ⟨_, 0, none⟩) hb5'.size _).at' hbx2 | exact (hb6'.setCell (p := ⟨_, 0, none⟩) (Nat.le_refl _) _).at' hbx2)
      (first | (go_at_call 55; refine (l16All_any _ g (by omega) _ (hg2.out.below (below_dN (Below.refl _ _) 1))).mono ?_; rintro e w5 ⟨lv, rfl, hown5, hb5⟩; have hb5' : Below w2.heap.size w2 w5 := (below_dN (Below.refl _ _) 1).trans hb5; have hn5 := Lib.hid (Nums.of_owns (xs := allL g.length) hown5 (allL_length _).symm (by omega)); clear hown5) | (go_at_call 55; refine (l16All_any _ g (by omega) _ (hg2.out.below (below_dN (below_alloc _ _) 1))).mono ?_; rintro e w5 ⟨lv, rfl, hown5, hb5⟩; have hb5' : Below w2.heap.size w2 w5 := (below_dN (below_alloc w2 (.cells #[.slice none 0 0] 29)) 1).trans (hb5.mono (below_alloc w2 _).size); have hn5 := Lib.hid (Nums.of_owns (xs := allL g.length) hown5 (allL_length _).symm (by omega)); clear hown5; have ZB := Lib.hid ((Box.new w2 (.slice none 0 0) 29).keep (show Below _ _ w5 from ⟨hb5.os, hb5.tape, hb5.output, hb5.size, hb5.block⟩))) | (go_at_call 100; have ZB2 := ZB.out; refine (l20All_any _ _ g (allL g.length) h16 (by rw [allL_length]; exact h16) (fun x hx => mem_allL.1 hx) Hrl.out _ (hg2.out.below (hb5')) (hn5.out.below (Below.refl _ _))).mono ?_; rintro e w6 ⟨ov, lv2, gu, fs, l, g', rfl, hF, ho6, hn6, hr6, hf6, _, _, hl6, _, hb6⟩; obtain ⟨gp, gc, rfl, _⟩ := hr6.shape; have HF := Lib.hid hF; have HO := Lib.hid ho6; have HN := Lib.hid hn6; clear hF ho6 hn6 hr6; have hb6' : Below w2.heap.size w2 w6 := hb5'.trans (hb6.mono hb5'.size); obtain ⟨zc, zf, zl, zB⟩ := ZB2.keep hb6) | (go_at_call 100; refine (l20All_any _ _ g (allL g.length) h16 (by rw [allL_length]; exact h16) (fun x hx => mem_allL.1 hx) Hrl.out _ (hg2.out.below (hb5'.trans ((below_alloc w5 _).mono hb5'.size))) (hn5.out.below (below_alloc w5 _))).mono ?_; rintro e w6 ⟨ov, lv2, gu, fs, l, g', rfl, hF, ho6, hn6, hr6, hf6, _, _, hl6, _, hb6⟩; obtain ⟨gp, gc, rfl, _⟩ := hr6.shape; have HF := Lib.hid hF; have HO := Lib.hid ho6; have HN := Lib.hid hn6; clear hF ho6 hn6 hr6; have hb6' : Below w2.heap.size w2 w6 := (hb5'.trans ((below_alloc w5 (.cells #[.slice none 0 0] 29)).mono hb5'.size)).trans (hb6.mono (by have := hb5'.size; rw [size_alloc]; omega)); obtain ⟨zc, zf, zl, zB⟩ := (Box.new w5 (.slice none 0 0) 29).keep hb6) | (go_at_call 100; refine (l20All_any _ _ g (allL g.length) h16 (by rw [allL_length]; exact h16) (fun x hx => mem_allL.1 hx) Hrl.out _ (hg2.out.below (hb5')) (hn5.out.below (Below.refl _ _))).mono ?_; rintro e w6 ⟨ov, lv2, gu, fs, l, g', rfl, hF, ho6, hn6, hr6, hf6, _, _, hl6, _, hb6⟩; obtain ⟨gp, gc, rfl, _⟩ := hr6.shape; have HF := Lib.hid hF; have HO := Lib.hid ho6; have HN := Lib.hid hn6; clear hF ho6 hn6 hr6; have hb6' : Below w2.heap.size w2 w6 := hb5'.trans (hb6.mono hb5'.size)))
    all_goals go_wp2
    all_goals go_meet
    · exact ⟨_, _, _, HF.out, HN.out.below (below_alloc _ _), hl6, hb6'.alloc hb6'.size _⟩
    · exact ⟨_, _, _, HF.out, HN.out.setBox ⟨zc, zf, zl, zB⟩ (by decide) _, hl6, hb6'.setCell (p := ⟨_, 0, none⟩) hb5'.size _⟩
    · exact ⟨_, _, _, HF.out, HN.out.setBox ⟨zc, zf, zl, zB⟩ (by decide) _, hl6, hb6'.setCell (p := ⟨_, 0, none⟩) (Nat.le_refl _) _⟩
  case rest =>
    obtain ⟨fs, l, g', hF, hn, hll, hbc⟩ := hcut
    obtain ⟨lp, lc, rfl, _⟩ := id hn
    have hiff := serS_iff Hok.out hF
    by_cases hz : l.length = 0
    · have hd2 : dec (SerS g) = true := dec_true (hiff.2 hz)
      have hz2 : ((l.length : Int) == 0) = true := by simp [hz]
      go_wp2
      go_ret
      exact ⟨by rw [hd2]; rfl, hb2'.trans (hbc.mono hb2'.size)⟩
    · have hd2 : dec (SerS g) = false := dec_false (fun h => hz (hiff.1 h))
      have hz2 : ((l.length : Int) == 0) = false := by simpa using hz
      go_wp2
      go_ret
      exact ⟨by rw [hd2]; rfl, hb2'.trans (hbc.mono hb2'.size)⟩

end Go.Proofs.YtfokiijcpkhllaaDoor

/- Walks: the reference's TwoOrder. -/
namespace Go.Proofs.YtfokiijcpkhllaaDoor
open Go.RowKit

/-- v reads as the folds fs. -/
def Fds (w : World) (v : Value) (fs : List Fd) : Prop := Sl w 89 v fs.length (fdCells fs)
theorem fdCells_get (fs : List Fd) : ∀ {k : Nat} (hk : k < fs.length), (fdCells fs)[k * 3]? = some (.int .i64 fs[k].V) ∧ (fdCells fs)[k * 3 + 1]? = some (.int .i64 fs[k].A) ∧ (fdCells fs)[k * 3 + 2]? = some (.int .i64 fs[k].B) := by
  induction fs with
  | nil => intro k hk; simp at hk
  | cons f fs ih =>
    intro k hk
    have e : fdCells (f :: fs) = .int .i64 f.V :: .int .i64 f.A :: .int .i64 f.B :: fdCells fs := rfl
    rw [e]
    cases k with
    | zero => exact ⟨rfl, rfl, rfl⟩
    | succ k =>
      obtain ⟨h1, h2, h3⟩ := ih (k := k) (by simpa using hk)
      rw [show (k + 1) * 3 = k * 3 + 1 + 1 + 1 by omega, show k * 3 + 1 + 1 + 1 + 1 = k * 3 + 1 + 1 + 1 + 1 from rfl, show k * 3 + 1 + 1 + 1 + 2 = k * 3 + 2 + 1 + 1 + 1 by omega]
      simp only [List.getElem?_cons_succ, List.getElem_cons_succ]
      exact ⟨h1, h2, h3⟩
theorem Fds.of_owns {w : World} {base : Nat} {v : Value} {fs : List Fd} (h : w.ownsRow base 89 3 v fs.length (fdCells fs)) (hn : fs.length ≤ 1000) : Fds w v fs := Sl.of_owns h (by omega)
theorem Fds.below {w w' : World} {v : Value} {fs : List Fd} (h : Fds w v fs) (hb : Below w.heap.size w w') : Fds w' v fs := Sl.below h hb
theorem Fds.shape {w : World} {v : Value} {fs : List Fd} (h : Fds w v fs) : ∃ p c, v = .slice p fs.length c ∧ (p = none → fs.length = 0 ∧ c = 0) ∧ fs.length ≤ c ∧ fs.length ≤ 1000000000 ∧ At w 89 p (fdCells fs) := h
theorem At.fold {w : World} {p : Option Addr} {fs : List Fd} (h : At w 89 p (fdCells fs)) {k : Nat} (hk : k < fs.length) :
    ∃ b o, p = some ⟨b, o, none⟩ ∧ w.cell? ⟨b, o + k * 3, none⟩ = some (.int .i64 fs[k].V) ∧ w.cell? ⟨b, o + k * 3 + 1, none⟩ = some (.int .i64 fs[k].A) ∧ w.cell? ⟨b, o + k * 3 + 2, none⟩ = some (.int .i64 fs[k].B) := by
  obtain ⟨b, o, h1, h2⟩ := h.cells (k := k) (by rw [fdCells_length]; omega)
  obtain ⟨e1, e2, e3⟩ := fdCells_get fs hk
  exact ⟨b, o, h1, h2 _ _ e1, by rw [Nat.add_assoc]; exact h2 _ _ e2, by rw [Nat.add_assoc]; exact h2 _ _ e3⟩

/-- The order of a graph that folds away. -/
def TwoS (g : List (List Int)) (ys : List Int) : Prop := (SerS g ∧ ∃ fs l, FoldedS g fs l ∧ ys = fs.map Fd.V) ∨ (¬ SerS g ∧ ys = [])

theorem foldedS_det {g : List (List Int)} {fs fs2 : List Fd} {l l2 : List Int} (h : FoldedS g fs l) (h2 : FoldedS g fs2 l2) : fs = fs2 ∧ l = l2 := by
  rcases h with ⟨hg, g', h⟩ | ⟨hg, rfl, rfl⟩ <;> rcases h2 with ⟨hg2, g2, h2⟩ | ⟨hg2, rfl, rfl⟩
  · obtain ⟨e1, e2, _⟩ := folds_det h h2
    exact ⟨e1, e2⟩
  · exact absurd hg hg2
  · exact absurd hg2 hg
  · exact ⟨rfl, rfl⟩
theorem twoS_det {g : List (List Int)} {ys zs : List Int} (h : TwoS g ys) (h2 : TwoS g zs) : ys = zs := by
  rcases h with ⟨hg, fs, l, h, rfl⟩ | ⟨hg, rfl⟩ <;> rcases h2 with ⟨hg2, fs2, l2, h2, rfl⟩ | ⟨hg2, rfl⟩
  · rw [(foldedS_det h h2).1]
  · exact absurd hg hg2
  · exact absurd hg2 hg
  · rfl

end Go.Proofs.YtfokiijcpkhllaaDoor

/- Walks: how the program says that a vertex may be folded, and how it folds it away. -/
namespace Go.Proofs.YtfokiijcpkhllaaDoor
open Go.RowKit

theorem and_near {a : List Nat} (ha : ∀ s ∈ a, s < 65536) {v left : Nat} (hv : v < a.length) (hl : left < 65536) : bits BinOp.and IntKind.u32 (a[v] : Int) (left : Int) = ((a.getD v 0 &&& left : Nat) : Int) := by
  have e : a.getD v 0 = a[v] := by simp [hv]
  rw [e]
  exact u32_and_nat _ _ (by have := ha _ (List.getElem_mem hv); omega) (by omega)

theorem nets_cell {w : World} {p : Option Addr} {n c : Nat} {a : List Nat} (h : Sl w 64 (.slice p n c) a.length (a.map u32v)) {v : Nat} (hv : v < a.length) :
    ∃ b o, p = some ⟨b, o, none⟩ ∧ w.cell? ⟨b, o + v, none⟩ = some (.int .u32 (a[v] : Int)) := by
  obtain ⟨p', c', he, _, _, _, hat⟩ := h
  simp only [Value.slice.injEq] at he
  obtain ⟨rfl, rfl, rfl⟩ := he
  obtain ⟨b, o, h1, h2⟩ := hat.cells (k := v) (by simpa using hv)
  exact ⟨b, o, h1, h2 v _ (by simp [hv, u32v])⟩

set_option maxRecDepth 100000 in
set_option maxHeartbeats 4000000 in
theorem foldOf_any (p : Option Addr) (c : Nat) (y z : Int) (a : List Nat) (left v : Nat) (hy : y = left) (hz : z = v) (hv : v < a.length) (h16 : a.length ≤ 16) (ha : ∀ s ∈ a, s < 65536) (hl : left < 65536) (w : World)
    (hx : Sl w 64 (.slice p a.length c) a.length (a.map u32v)) (hT : Tab w) :
    Calls Tryd.prog 72 #[.slice p a.length c, .int .u32 y, .int .i64 z] w fun e w' => Below w.heap.size w w' ∧
      if (nearL a left v).length ≤ 2 then e = .returned (.tuple #[fdVal (atRow v (nearL a left v)), .bool true]) else e = .returned (.tuple #[fdVal ⟨0, 0, 0⟩, .bool false]) := by
  subst hy; subst hz
  obtain ⟨b, o, rfl, hc⟩ := nets_cell hx hv
  have hc1 := (below_alloc w (.cells #[.int .i64 0, .int .i64 0, .int .i64 0] 89)).at' hc
  have hand := Lib.hid (and_near ha hv hl)
  have hn32 : a.getD v 0 &&& left < 4294967296 := Nat.lt_of_le_of_lt Nat.and_le_right (by omega)
  have hT1 := hT.keep (below_alloc w (.cells #[.int .i64 0, .int .i64 0, .int .i64 0] 89))
  have hb1 := Lib.hid (below_alloc w (.cells #[.int .i64 0, .int .i64 0, .int .i64 0] 89))
  have hlen : (nearL a left v).length = (bitsOf (a.getD v 0 &&& left)).length := natInts_length _
  have hlen32 := bitsOf_length (a.getD v 0 &&& left)
  have hnear : natInts (bitsOf (a.getD v 0 &&& left)) = nearL a left v := rfl
  have CALL := Lib.hid (fun (w : World) (hT : Tab w) => list_any _ _ hand.out hn32 w hT)
  simp only [hnear, ← hlen] at CALL hlen32
  have Hlen := Lib.hid hlen
  clear hnear hlen hx hT hc ha
  generalize nearL a left v = r at *
  have NEW := Lib.hid (cell_new3 w (.int .i64 0) (.int .i64 0) (.int .i64 0) 89)
  by_cases h2 : r.length ≤ 2
  case neg =>
    simp only [h2, if_false]
    go_enter Tryd.func72, Tryd.ntmps72
    go_wp2_with (go_at_call 48; refine (CALL.out _ hT1).mono ?_; rintro e w2 ⟨lv, rfl, hown, hb2⟩; have hn2 := Nums.of_owns hown rfl (by omega); obtain ⟨lp, lc, rfl, _, _, _, hat⟩ := hn2.shape; obtain ⟨z0, z1, z2⟩ := NEW.out; have x0 := fun o => (below_alloc w2 o).at' (hb2.at' z0); have x1 := fun o => (below_alloc w2 o).at' (hb2.at' z1); have x2 := fun o => (below_alloc w2 o).at' (hb2.at' z2); have xf : ∀ o i, (w2.alloc o).frozen? ⟨w.heap.size, i, none⟩ = false := fun o i => ((below_alloc w2 o).frozen (p := ⟨w.heap.size, i, none⟩) (by have := hb2.size; rw [size_alloc] at this; show w.heap.size < _; omega)).trans ((hb2.frozen (p := ⟨w.heap.size, i, none⟩) (by rw [size_alloc]; show w.heap.size < _; omega)).trans (frozen_new w _ _ i)); have n1 : w.heap.size ≠ w2.heap.size := (by have := hb2.size; rw [size_alloc] at this; omega); have n2 := Ne.symm n1)
    refine bodyPost_ret (v := .tuple #[.agg #[.int .i64 0, .int .i64 0, .int .i64 0], .bool false]) (by simp [results, Tryd.results72, go_sem, x0, x1, x2]) rfl ⟨?_, rfl⟩
    exact ((hb1.out.trans (hb2.mono hb1.out.size)).alloc (by have := hb2.size; rw [size_alloc] at this; omega) _).trans (set3_below _ _ _ _ (Nat.le_refl _))
  simp only [h2, if_true]
  by_cases h0 : 0 < r.length
  case neg =>
    have e : r = [] := List.eq_nil_of_length_eq_zero (by omega)
    subst e
    go_enter Tryd.func72, Tryd.ntmps72
    go_wp2_with (go_at_call 48; refine (CALL.out _ hT1).mono ?_; rintro e w2 ⟨lv, rfl, hown, hb2⟩; have hn2 := Nums.of_owns hown rfl (by omega); obtain ⟨lp, lc, rfl, _, _, _, hat⟩ := hn2.shape; obtain ⟨z0, z1, z2⟩ := NEW.out; have x0 := fun o => (below_alloc w2 o).at' (hb2.at' z0); have x1 := fun o => (below_alloc w2 o).at' (hb2.at' z1); have x2 := fun o => (below_alloc w2 o).at' (hb2.at' z2); have xf : ∀ o i, (w2.alloc o).frozen? ⟨w.heap.size, i, none⟩ = false := fun o i => ((below_alloc w2 o).frozen (p := ⟨w.heap.size, i, none⟩) (by have := hb2.size; rw [size_alloc] at this; show w.heap.size < _; omega)).trans ((hb2.frozen (p := ⟨w.heap.size, i, none⟩) (by rw [size_alloc]; show w.heap.size < _; omega)).trans (frozen_new w _ _ i)); have n1 : w.heap.size ≠ w2.heap.size := (by have := hb2.size; rw [size_alloc] at this; omega); have n2 := Ne.symm n1)
    refine bodyPost_ret (v := .tuple #[.agg #[.int .i64 v, .int .i64 (-1), .int .i64 (-1)], .bool true]) (by simp [results, Tryd.results72, go_sem, x0, x1, x2]) rfl ⟨?_, rfl⟩
    exact ((hb1.out.trans (hb2.mono hb1.out.size)).alloc (by have := hb2.size; rw [size_alloc] at this; omega) _).trans (set3_below _ _ _ _ (Nat.le_refl _))
  by_cases h1 : 1 < r.length
  · have hf : atRow v r = ⟨v, r[0], r[1]⟩ := by unfold atRow; rw [getD_zero h0, getD_one h1]
    rw [hf]
    clear hf
    go_enter Tryd.func72, Tryd.ntmps72
    go_wp2_with (go_at_call 48; refine (CALL.out _ hT1).mono ?_; rintro e w2 ⟨lv, rfl, hown, hb2⟩; have hn2 := Nums.of_owns hown rfl (by omega); obtain ⟨lp, lc, rfl, _, _, _, hat⟩ := hn2.shape; obtain ⟨z0, z1, z2⟩ := NEW.out; have x0 := fun o => (below_alloc w2 o).at' (hb2.at' z0); have x1 := fun o => (below_alloc w2 o).at' (hb2.at' z1); have x2 := fun o => (below_alloc w2 o).at' (hb2.at' z2); have xf : ∀ o i, (w2.alloc o).frozen? ⟨w.heap.size, i, none⟩ = false := fun o i => ((below_alloc w2 o).frozen (p := ⟨w.heap.size, i, none⟩) (by have := hb2.size; rw [size_alloc] at this; show w.heap.size < _; omega)).trans ((hb2.frozen (p := ⟨w.heap.size, i, none⟩) (by rw [size_alloc]; show w.heap.size < _; omega)).trans (frozen_new w _ _ i)); have n1 : w.heap.size ≠ w2.heap.size := (by have := hb2.size; rw [size_alloc] at this; omega); have n2 := Ne.symm n1; obtain ⟨b3, o3, rfl, hc3⟩ := hat.num h0; rw [Nat.add_zero] at hc3; obtain ⟨_, _, he4, hc4⟩ := hat.num h1; cases he4; have y0 := fun o => (below_alloc w2 o).at' hc3; have y1 := fun o => (below_alloc w2 o).at' hc4; have n3 : b3 < w2.heap.size := World.block_lt_of_cell? _ _ hc3; have n4 : b3 ≠ w2.heap.size := (by omega); have n5 := Ne.symm n4)
    refine bodyPost_ret (v := .tuple #[.agg #[.int .i64 v, .int .i64 r[0], .int .i64 r[1]], .bool true]) (by simp [results, Tryd.results72, go_sem, x0, x1, x2]) rfl ⟨?_, rfl⟩
    exact ((hb1.out.trans (hb2.mono hb1.out.size)).alloc (by have := hb2.size; rw [size_alloc] at this; omega) _).trans (set3_below _ _ _ _ (Nat.le_refl _))
  · have hf : atRow v r = ⟨v, r[0], -1⟩ := by
      unfold atRow
      rw [getD_zero h0, show r.getD 1 (-1) = -1 from by simp [show r.length ≤ 1 by omega]]
    rw [hf]
    clear hf
    go_enter Tryd.func72, Tryd.ntmps72
    go_wp2_with (go_at_call 48; refine (CALL.out _ hT1).mono ?_; rintro e w2 ⟨lv, rfl, hown, hb2⟩; have hn2 := Nums.of_owns hown rfl (by omega); obtain ⟨lp, lc, rfl, _, _, _, hat⟩ := hn2.shape; obtain ⟨z0, z1, z2⟩ := NEW.out; have x0 := fun o => (below_alloc w2 o).at' (hb2.at' z0); have x1 := fun o => (below_alloc w2 o).at' (hb2.at' z1); have x2 := fun o => (below_alloc w2 o).at' (hb2.at' z2); have xf : ∀ o i, (w2.alloc o).frozen? ⟨w.heap.size, i, none⟩ = false := fun o i => ((below_alloc w2 o).frozen (p := ⟨w.heap.size, i, none⟩) (by have := hb2.size; rw [size_alloc] at this; show w.heap.size < _; omega)).trans ((hb2.frozen (p := ⟨w.heap.size, i, none⟩) (by rw [size_alloc]; show w.heap.size < _; omega)).trans (frozen_new w _ _ i)); have n1 : w.heap.size ≠ w2.heap.size := (by have := hb2.size; rw [size_alloc] at this; omega); have n2 := Ne.symm n1; obtain ⟨b3, o3, rfl, hc3⟩ := hat.num h0; rw [Nat.add_zero] at hc3; have y0 := fun o => (below_alloc w2 o).at' hc3; have n3 : b3 < w2.heap.size := World.block_lt_of_cell? _ _ hc3; have n4 : b3 ≠ w2.heap.size := (by omega); have n5 := Ne.symm n4)
    refine bodyPost_ret (v := .tuple #[.agg #[.int .i64 v, .int .i64 r[0], .int .i64 (-1)], .bool true]) (by simp [results, Tryd.results72, go_sem, x0, x1, x2]) rfl ⟨?_, rfl⟩
    exact ((hb1.out.trans (hb2.mono hb1.out.size)).alloc (by have := hb2.size; rw [size_alloc] at this; omega) _).trans (set3_below _ _ _ _ (Nat.le_refl _))

theorem foldOf_yes (p : Option Addr) (c : Nat) (y z : Int) (a : List Nat) (left v : Nat) (hy : y = left) (hz : z = v) (hv : v < a.length) (h16 : a.length ≤ 16) (ha : ∀ s ∈ a, s < 65536) (hl : left < 65536) (w : World)
    (hx : Sl w 64 (.slice p a.length c) a.length (a.map u32v)) (hT : Tab w) (h2 : (nearL a left v).length ≤ 2) (V A B : Int) (hf : (⟨V, A, B⟩ : Fd) = atRow v (nearL a left v)) :
    Calls Tryd.prog 72 #[.slice p a.length c, .int .u32 y, .int .i64 z] w fun e w' => e = .returned (.tuple #[.agg #[.int .i64 V, .int .i64 A, .int .i64 B], .bool true]) ∧ Below w.heap.size w w' :=
  (foldOf_any p c y z a left v hy hz hv h16 ha hl w hx hT).mono fun e w' ⟨h, he⟩ => by
    simp only [h2, if_true] at he
    rw [← hf] at he
    exact ⟨he, h⟩
theorem foldOf_no (p : Option Addr) (c : Nat) (y z : Int) (a : List Nat) (left v : Nat) (hy : y = left) (hz : z = v) (hv : v < a.length) (h16 : a.length ≤ 16) (ha : ∀ s ∈ a, s < 65536) (hl : left < 65536) (w : World)
    (hx : Sl w 64 (.slice p a.length c) a.length (a.map u32v)) (hT : Tab w) (h2 : ¬ (nearL a left v).length ≤ 2) :
    Calls Tryd.prog 72 #[.slice p a.length c, .int .u32 y, .int .i64 z] w fun e w' => e = .returned (.tuple #[.agg #[.int .i64 0, .int .i64 0, .int .i64 0], .bool false]) ∧ Below w.heap.size w w' :=
  (foldOf_any p c y z a left v hy hz hv h16 ha hl w hx hT).mono fun e w' ⟨h, he⟩ => by
    simp only [h2, if_false] at he
    exact ⟨he, h⟩

set_option maxRecDepth 100000 in
set_option maxHeartbeats 4000000 in
theorem foldAway_any (x : Value) (a : List Nat) (f : Fd) (base : Nat) (h16 : a.length ≤ 16) (ha : ∀ s ∈ a, s < 65536) (hf : 0 ≤ f.B → ∃ u v : Nat, f.A = u ∧ f.B = v ∧ u < a.length ∧ v < a.length ∧ u ≠ v) (w : World)
    (ho : w.ownsRow base 64 1 x a.length (a.map u32v)) :
    Calls Tryd.prog 73 #[x, .agg #[.int .i64 f.V, .int .i64 f.A, .int .i64 f.B]] w fun e w' => e = .returned (.tuple #[]) ∧
      w'.ownsRow base 64 1 x (awayL a f).length ((awayL a f).map u32v) ∧ w.grownBy w' x.ownBlock := by
  obtain ⟨V, A, B⟩ := f
  have hbA := below_alloc w (.cells #[.int .i64 V, .int .i64 A, .int .i64 B] 89)
  have HG := Lib.hid (grown_of_below hbA x.ownBlock)
  have HO := Lib.hid (ownsRow_below ho hbA)
  clear hbA
  by_cases hB : 0 ≤ B
  · obtain ⟨u, v, rfl, rfl, hu, hv, huv⟩ := hf hB
    have e : awayL a ⟨V, u, v⟩ = joinL a u v := by
      show (if _ then _ else _) = _
      rw [if_pos hB]; rfl
    rw [e, joinL_length]
    clear e hf
    go_enter Tryd.func73, Tryd.ntmps73
    go_wp2_with (go_at_call 122; refine (join_any x _ _ a u v base rfl rfl hu hv huv h16 ha _ HO.out).mono ?_; rintro e w2 ⟨rfl, hown, hg⟩)
    go_end0
    exact ⟨rfl, hown, grown_trans HG.out hg⟩
  · have e : awayL a ⟨V, A, B⟩ = a := if_neg hB
    rw [e]
    clear e hf
    go_enter Tryd.func73, Tryd.ntmps73
    go_wp2
    go_end0
    exact ⟨rfl, HO.out, HG.out⟩

end Go.Proofs.YtfokiijcpkhllaaDoor
