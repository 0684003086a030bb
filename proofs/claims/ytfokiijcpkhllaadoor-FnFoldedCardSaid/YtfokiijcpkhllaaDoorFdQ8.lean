/- Walks: the reference's FoldedOf, SeriesIn, TwoOrder. -/
import Derived.Test.YtfokiijcpkhllaaDoorFdQ7
import Derived.Laws.StructEq
namespace Go.Proofs.YtfokiijcpkhllaaDoor
open Go.RowKit

end Go.Proofs.YtfokiijcpkhllaaDoor

/- Walks: the reference's SeriesIn. -/
namespace Go.Proofs.YtfokiijcpkhllaaDoor
open Go.RowKit

set_option maxRecDepth 100000 in
set_option maxHeartbeats 4000000 in
theorem specSeriesIn_any (v : Value) (g : List (List Int)) (w : World) (hg : Gr w v g) :
    Calls Tryd.prog 35 #[v] w fun e w' => e = .returned (.bool (dec (SerS g))) ∧ Below w.heap.size w w' := by
  have hg0 := hg
  obtain ⟨u, rfl, hr⟩ := hg
  obtain ⟨p, c, rfl, _, _, _⟩ := hr.shape
  have HG := Lib.hid hg0
  have hbA := Lib.hid (below_alloc w (.cells #[.slice p g.length c] 29))
  have BX := Lib.hid (Box.new w (.slice p g.length c) 29)
  clear hr hg0
  by_cases hok : GOk g
  case neg =>
    have hd := dec_false hok
    have Hok := Lib.hid hok
    clear hok
    go_enter Tryd.func35, Tryd.ntmps35
    go_wp2_with (go_at_call 50; refine (specGraphOk_any _ g _ (HG.out.below hbA.out)).mono ?_; rintro e w2 ⟨rfl, hb2⟩)
    go_ret
    exact ⟨by rw [dec_false (fun h => Hok.out h.1)]; rfl, hbA.out.trans (hb2.mono hbA.out.size)⟩
  have hd := dec_true hok
  have h16 := hok.le
  have Hrl := Lib.hid (gOk_row_le hok)
  have Hok := Lib.hid hok
  clear hok
  go_enter Tryd.func35, Tryd.ntmps35
  go_wp2_with fail
  go_wp2_with (go_at_call 50; refine (specGraphOk_any _ g _ (HG.out.below hbA.out)).mono ?_; rintro e w2 ⟨rfl, hb2⟩)
  have hb2' : Below w.heap.size w w2 := hbA.out.trans (hb2.mono hbA.out.size)
  have hg2 := Lib.hid (HG.out.below hb2')
  have hbx2 := (BX.out.keep hb2).cell
  have hlt2 := (BX.out.keep hb2).lt
  have hne2 : w.heap.size ≠ w2.heap.size := by omega
  have hne2' : w2.heap.size ≠ w.heap.size := by omega
  clear hb2
  go_cut [4] (fun s4 wx => ∃ (fs : List Fd) (l : List Int) (g' : List (List Int)), Folds g (allL g.length) fs l g' ∧ Nums wx 2 .i64 s4 l ∧ l.length ≤ 16 ∧ Below w2.heap.size w2 wx)
  case first =>
    go_region_held3 (fun w' => w'.cell? ⟨w.heap.size, 0, none⟩ = some (.slice p g.length c))
      (first | go_keep | exact hb5'.at' hbx2 | exact hb6'.at' hbx2 | exact (below_alloc _ _).at' (hb5'.at' hbx2) | exact (below_alloc _ _).at' (hb6'.at' hbx2) | exact (hb6'.setCell (p := ⟨_, 0, none⟩) hb5'.size _).at' hbx2 | exact (hb6'.setCell (p := ⟨_, 0, none⟩) (Nat.le_refl _) _).at' hbx2)
      (first | (go_at_call 55; refine (l16All_any _ g (by omega) _ (hg2.out.below (below_dN (Below.refl _ _) 1))).mono ?_; rintro e w5 ⟨lv, rfl, hown5, hb5⟩; have hb5' : Below w2.heap.size w2 w5 := (below_dN (Below.refl _ _) 1).trans hb5; have hn5 := Lib.hid (Nums.of_owns (xs := allL g.length) hown5 (allL_length _).symm (by omega)); clear hown5) | (go_at_call 55; refine (l16All_any _ g (by omega) _ (hg2.out.below (below_dN (below_alloc _ _) 1))).mono ?_; rintro e w5 ⟨lv, rfl, hown5, hb5⟩; have hb5' : Below w2.heap.size w2 w5 := (below_dN (below_alloc w2 (.cells #[.slice none 0 0] 29)) 1).trans (hb5.mono (below_alloc w2 _).size); have hn5 := Lib.hid (Nums.of_owns (xs := allL g.length) hown5 (allL_length _).symm (by omega)); clear hown5; have ZB := Lib.hid ((Box.new w2 (.slice none 0 0) 29).keep (show Below _ _ w5 from ⟨hb5.os, hb5.tape, hb5.output, hb5.size, hb5.block⟩))) | (go_at_call 100; have ZB2 := ZB.out; refine (l20All_any _ _ g (allL g.length) h16 (by rw [allL_length]; exact h16) (fun x hx => mem_allL.1 hx) Hrl.out _ (hg2.out.below (hb5')) (hn5.out.below (Below.refl _ _))).mono ?_; rintro e w6 ⟨ov, lv2, gu, fs, l, g', rfl, hF, ho6, hn6, hr6, hf6, _, _, hl6, _, hb6⟩; obtain ⟨gp, gc, rfl, _⟩ := hr6.shape; have HF := Lib.hid hF; have HO := Lib.hid ho6; have HN := Lib.hid hn6; clear hF ho6 hn6 hr6; have hb6' : Below w2.heap.size w2 w6 := hb5'.trans (hb6.mono hb5'.size); obtain ⟨zc, zf, zl, zB⟩ := ZB2.keep hb6) | (go_at_call 100; refine (l20All_any _ _ g (allL g.length) h16 (by rw [allL_length]; exact h16) (fun x hx => mem_allL.1 hx) Hrl.out _ (hg2.out.below (hb5'.trans ((below_alloc w5 _).mono hb5'.size))) (hn5.out.below (below_alloc w5 _))).mono ?_; rintro e w6 ⟨ov, lv2, gu, fs, l, g', rfl, hF, ho6, hn6, hr6, hf6, _, _, hl6, _, hb6⟩; obtain ⟨gp, gc, rfl, _⟩ := hr6.shape; have HF := Lib.hid hF; have HO := Lib.hid ho6; have HN := Lib.hid hn6; clear hF ho6 hn6 hr6; have hb6' : Below w2.heap.size w2 w6 := (hb5'.trans ((below_alloc w5 (.cells #[.slice none 0 0] 29)).mono hb5'.size)).trans (hb6.mono (by have := hb5'.size; rw [size_alloc]; omega)); obtain ⟨zc, zf, zl, zB⟩ := (Box.new w5 (.slice none 0 0) 29).keep hb6) | (go_at_call 100; refine (l20All_any _ _ g (allL g.length) h16 (by rw [allL_length]; exact h16) (fun x hx => mem_allL.1 hx) Hrl.out _ (hg2.out.below (hb5')) (hn5.out.below (Below.refl _ _))).mono ?_; rintro e w6 ⟨ov, lv2, gu, fs, l, g', rfl, hF, ho6, hn6, hr6, hf6, _, _, hl6, _, hb6⟩; obtain ⟨gp, gc, rfl, _⟩ := hr6.shape; have HF := Lib.hid hF; have HO := Lib.hid ho6; have HN := Lib.hid hn6; clear hF ho6 hn6 hr6; have hb6' : Below w2.heap.size w2 w6 := hb5'.trans (hb6.mono hb5'.size)))
    all_goals go_wp2
    all_goals go_meet
    · exact ⟨_, _, _, HF.out, HN.out.below (below_alloc _ _), hl6, hb6'.alloc hb6'.size _⟩
    · exact ⟨_, _, _, HF.out, HN.out.setBox ⟨zc, zf, zl, zB⟩ (by decide) _, hl6, hb6'.setCell (p := ⟨_, 0, none⟩) hb5'.size _⟩
    · exact ⟨_, _, _, HF.out, HN.out.setBox ⟨zc, zf, zl, zB⟩ (by decide) _, hl6, hb6'.setCell (p := ⟨_, 0, none⟩) (Nat.le_refl _) _⟩
  case rest =>
    obtain ⟨fs, l, g', hF, hn, hll, hbc⟩ := hcut
    obtain ⟨lp, lc, rfl, _⟩ := id hn
    have hiff := serS_iff Hok.out hF
    by_cases hz : l.length = 0
    · have hd2 : dec (SerS g) = true := dec_true (hiff.2 hz)
      have hz2 : ((l.length : Int) == 0) = true := by simp [hz]
      go_wp2
      go_ret
      exact ⟨by rw [hd2]; rfl, hb2'.trans (hbc.mono hb2'.size)⟩
    · have hd2 : dec (SerS g) = false := dec_false (fun h => hz (hiff.1 h))
      have hz2 : ((l.length : Int) == 0) = false := by simpa using hz
      go_wp2
      go_ret
      exact ⟨by rw [hd2]; rfl, hb2'.trans (hbc.mono hb2'.size)⟩

end Go.Proofs.YtfokiijcpkhllaaDoor

/- Walks: the reference's TwoOrder. -/
namespace Go.Proofs.YtfokiijcpkhllaaDoor
open Go.RowKit

/-- v reads as the folds fs. -/
def Fds (w : World) (v : Value) (fs : List Fd) : Prop := Sl w 89 v fs.length (fdCells fs)
theorem fdCells_get (fs : List Fd) : ∀ {k : Nat} (hk : k < fs.length), (fdCells fs)[k * 3]? = some (.int .i64 fs[k].V) ∧ (fdCells fs)[k * 3 + 1]? = some (.int .i64 fs[k].A) ∧ (fdCells fs)[k * 3 + 2]? = some (.int .i64 fs[k].B) := by
  induction fs with
  | nil => intro k hk; simp at hk
  | cons f fs ih =>
    intro k hk
    have e : fdCells (f :: fs) = .int .i64 f.V :: .int .i64 f.A :: .int .i64 f.B :: fdCells fs := rfl
    rw [e]
    cases k with
    | zero => exact ⟨rfl, rfl, rfl⟩
    | succ k =>
      obtain ⟨h1, h2, h3⟩ := ih (k := k) (by simpa using hk)
      rw [show (k + 1) * 3 = k * 3 + 1 + 1 + 1 by omega, show k * 3 + 1 + 1 + 1 + 1 = k * 3 + 1 + 1 + 1 + 1 from rfl, show k * 3 + 1 + 1 + 1 + 2 = k * 3 + 2 + 1 + 1 + 1 by omega]
      simp only [List.getElem?_cons_succ, List.getElem_cons_succ]
      exact ⟨h1, h2, h3⟩
theorem Fds.of_owns {w : World} {base : Nat} {v : Value} {fs : List Fd} (h : w.ownsRow base 89 3 v fs.length (fdCells fs)) (hn : fs.length ≤ 1000) : Fds w v fs := Sl.of_owns h (by omega)
theorem Fds.below {w w' : World} {v : Value} {fs : List Fd} (h : Fds w v fs) (hb : Below w.heap.size w w') : Fds w' v fs := Sl.below h hb
theorem Fds.shape {w : World} {v : Value} {fs : List Fd} (h : Fds w v fs) : ∃ p c, v = .slice p fs.length c ∧ (p = none → fs.length = 0 ∧ c = 0) ∧ fs.length ≤ c ∧ fs.length ≤ 1000000000 ∧ At w 89 p (fdCells fs) := h
theorem At.fold {w : World} {p : Option Addr} {fs : List Fd} (h : At w 89 p (fdCells fs)) {k : Nat} (hk : k < fs.length) :
    ∃ b o, p = some ⟨b, o, none⟩ ∧ w.cell? ⟨b, o + k * 3, none⟩ = some (.int .i64 fs[k].V) ∧ w.cell? ⟨b, o + k * 3 + 1, none⟩ = some (.int .i64 fs[k].A) ∧ w.cell? ⟨b, o + k * 3 + 2, none⟩ = some (.int .i64 fs[k].B) := by
  obtain ⟨b, o, h1, h2⟩ := h.cells (k := k) (by rw [fdCells_length]; omega)
  obtain ⟨e1, e2, e3⟩ := fdCells_get fs hk
  exact ⟨b, o, h1, h2 _ _ e1, by rw [Nat.add_assoc]; exact h2 _ _ e2, by rw [Nat.add_assoc]; exact h2 _ _ e3⟩

/-- The order of a graph that folds away. -/
def TwoS (g : List (List Int)) (ys : List Int) : Prop := (SerS g ∧ ∃ fs l, FoldedS g fs l ∧ ys = fs.map Fd.V) ∨ (¬ SerS g ∧ ys = [])

theorem foldedS_det {g : List (List Int)} {fs fs2 : List Fd} {l l2 : List Int} (h : FoldedS g fs l) (h2 : FoldedS g fs2 l2) : fs = fs2 ∧ l = l2 := by
  rcases h with ⟨hg, g', h⟩ | ⟨hg, rfl, rfl⟩ <;> rcases h2 with ⟨hg2, g2, h2⟩ | ⟨hg2, rfl, rfl⟩
  · obtain ⟨e1, e2, _⟩ := folds_det h h2
    exact ⟨e1, e2⟩
  · exact absurd hg hg2
  · exact absurd hg2 hg
  · exact ⟨rfl, rfl⟩
theorem twoS_det {g : List (List Int)} {ys zs : List Int} (h : TwoS g ys) (h2 : TwoS g zs) : ys = zs := by
  rcases h with ⟨hg, fs, l, h, rfl⟩ | ⟨hg, rfl⟩ <;> rcases h2 with ⟨hg2, fs2, l2, h2, rfl⟩ | ⟨hg2, rfl⟩
  · rw [(foldedS_det h h2).1]
  · exact absurd hg hg2
  · exact absurd hg2 hg
  · rfl

end Go.Proofs.YtfokiijcpkhllaaDoor

/- Walk: the reference's FoldsOk finds a right folding right. -/
namespace Go.Proofs.YtfokiijcpkhllaaDoor
open Go.RowKit

theorem folds_head {g : List (List Int)} {left : List Int} {f : Fd} {fs : List Fd} {l : List Int} {g' : List (List Int)} (h : Folds g left (f :: fs) l g') :
    f.V ∈ left ∧ f = atRow f.V (row g f.V.toNat) ∧ (row g f.V.toNat).length ≤ 2 ∧ Folds (foldG g f) (lessL left f.V) fs l g' := by
  generalize hL : f :: fs = L at h
  cases h with
  | stop => cases hL
  | @step _ l1 l2 v fs2 _ _ h1 h2 h =>
    cases hL
    exact ⟨by simp [atRow], rfl, h2, h⟩

/-- What the loop carries. -/
structure FkI (w wr : World) (n k : Nat) (fv lv gu : Value) (gg : List (List Int)) (lf : List Int) (fs : List Fd) (l : List Int) (g' : List (List Int)) : Prop where
  bel : Below w.heap.size w wr
  sz : w.heap.size + 1 ≤ wr.heap.size
  left : Nums wr 2 .i64 lv lf
  fds : Fds wr fv fs
  box : Box wr w.heap.size 29 gu
  gr : Rws wr 32 2 gu gg
  gl : gg.length = n
  on : Folds gg lf (fs.drop k) l g'
  inn : ∀ x ∈ lf, 0 ≤ x ∧ x < n
  rl : ∀ j, j < n → (row gg j).length ≤ 16 + 2 * k
theorem fold_neq (V A B : Int) (w : World) : Sem.run Tryd.prog (binOp BinOp.neq 89 (.agg #[.int .i64 V, .int .i64 A, .int .i64 B]) (.agg #[.int .i64 V, .int .i64 A, .int .i64 B])) w = .ok (.bool false) w := by
  have hS : Tryd.prog.underlying 89 = some (.struct (Tryd.prog.fieldsOf 89)) := by kernel_rfl
  have hp : Tryd.prog.stoodInHeld 89 = false := by kernel_rfl
  rw [run_neq_struct, show (10000 : Nat) = 9999 + 1 from rfl, run_equalIn_agg w 9999 89 _ _ hS hp]
  simp only [Program.fieldsOf, Tryd.underlying89]
  go_simp
theorem fold_guard : Tryd.prog.eqGuardType Tryd.prog.depth 89 = false := by kernel_rfl
set_option maxRecDepth 100000 in
set_option maxHeartbeats 4000000 in
theorem specFoldsOk_yes (v fv : Value) (g : List (List Int)) (fs : List Fd) (l : List Int) (g' : List (List Int)) (hok : GOk g) (hF : Folds g (allL g.length) fs l g') (hfl : fs.length ≤ 16) (w : World) (hg : Gr w v g) (hfd : Fds w fv fs) :
    Calls Tryd.prog 21 #[v, fv] w fun e w' => e = .returned (.bool true) ∧ Below w.heap.size w w' := by
  have hg0 := Lib.hid hg
  obtain ⟨_, rfl, hr⟩ := hg
  obtain ⟨ga, gc, rfl, _⟩ := hr.shape
  obtain ⟨fp, fc, rfl, _⟩ := hfd.shape
  obtain ⟨w1, hw1⟩ : ∃ w1, w1 = w.alloc (.cells #[.slice ga g.length gc] 29) := ⟨_, rfl⟩
  have HX : Hid (Box w1 w.heap.size 29 (.slice ga g.length gc)) := Lib.hid (by rw [hw1]; exact Box.new _ _ _)
  have HB1 : Hid (Below w.heap.size w w1) := Lib.hid (by rw [hw1]; exact below_alloc _ _)
  have HS1 : Hid (w.heap.size + 1 ≤ w1.heap.size) := Lib.hid (by rw [hw1, size_alloc]; omega)
  have HG1 := Lib.hid (hg0.out.below HB1.out)
  have HFD1 := Lib.hid (hfd.below HB1.out)
  have HD := Lib.hid (dec_true hok)
  have HOK := Lib.hid hok
  have HF := Lib.hid hF
  have hgl16 := hok.le
  have hfi : ¬ (16 : Int) < (fs.length : Int) := by omega
  clear hok hr hfd hF hg0
  go_enter Tryd.func21, Tryd.ntmps21
  go_upto_region 1 with fail
  rw [← hw1]
  clear hw1
  have c1 := HX.out.cell
  go_upto_region 4 with (first
    | (go_at_call 50; refine (specGraphOk_any _ g _ HG1.out).mono ?_; rintro e w2 ⟨he, hb2⟩; rw [HD.out] at he; subst he; have c2 := hb2.at' c1)
    | (go_at_call 55; refine (l16All_any _ g (by omega) _ (HG1.out.below hb2)).mono ?_; rintro e w3 ⟨lu, rfl, ho3, hb3⟩; have hnl := Nums.of_owns (xs := allL g.length) ho3 (allL_length _).symm (by omega); obtain ⟨lp, lc, rfl, _⟩ := id hnl))
  have hb23 := hb2.trans (hb3.mono hb2.size)
  have START : Hid (FkI w w3 g.length 0 (.slice fp fs.length fc) (.slice lp (allL g.length).length lc) (.slice ga g.length gc) g (allL g.length) fs l g') := Lib.hid
    { bel := HB1.out.trans (hb23.mono HB1.out.size), sz := Nat.le_trans HS1.out hb23.size, left := hnl, fds := HFD1.out.below hb23, box := HX.out.keep hb23
      gr := by obtain ⟨_, e, h⟩ := HG1.out; cases e; exact h.below hb23
      gl := rfl, on := HF.out, inn := fun x hx => mem_allL.1 hx, rl := fun j hj => by have := gOk_row_le HOK.out j hj; omega }
  clear hb23 hb2 hb3 ho3 hnl c1 c2 HX HB1 HS1 HG1 HFD1
  go_wp2_with fail
  go_loopw [5, 6] (fun lv iv wr => ∃ (k : Nat) (gu : Value) (gg : List (List Int)) (lf : List Int), k ≤ fs.length ∧ iv = .int .i64 (k : Int) ∧ Hid (FkI w wr g.length k (.slice fp fs.length fc) lv gu gg lf fs l g') ∧ (∃ lp lc, lv = .slice lp lf.length lc)) (fun _ iv _ => fs.length - (intOf iv).toNat)
  case atStart => exact ⟨0, _, _, _, Nat.zero_le _, rfl, START, _, _, rfl⟩
  case round =>
    clear START
    obtain ⟨k, gu, gg, lf, hk, rfl, HI, lp, lc, rfl⟩ := hrel
    by_cases hlt : k < fs.length
    · have hki : (k : Int) < (fs.length : Int) := by omega
      obtain ⟨⟨V, A, B⟩, hf⟩ : ∃ f, f = fs[k] := ⟨_, rfl⟩
      have hon := HI.out.on
      rw [List.drop_eq_getElem_cons hlt, ← hf] at hon
      obtain ⟨h1, h2, h3, h4⟩ := folds_head hon
      have h1' : V ∈ lf := h1
      have hin := HI.out.inn V h1'
      obtain ⟨m, rfl⟩ := Int.eq_ofNat_of_zero_le hin.1
      have hmn : m < g.length := by omega
      have Hgl := Lib.hid HI.out.gl
      have hmn' : m < gg.length := by rw [Hgl.out]; exact hmn
      have HHAS := Lib.hid (dec_true h1')
      have HAT : Hid ((⟨(m : Int), A, B⟩ : Fd) = atRow (m : Int) (row gg m)) := Lib.hid h2
      have H2 : Hid ((row gg m).length ≤ 2) := Lib.hid h3
      have HNX : Hid (Folds (foldG gg ⟨(m : Int), A, B⟩) (lessL lf (m : Int)) (fs.drop (k + 1)) l g') := Lib.hid h4
      obtain ⟨_, _, e1, _, _, _, hat⟩ := HI.out.fds.shape
      cases e1
      obtain ⟨lb, lo, rfl, d0, d1, d2⟩ := hat.fold hlt
      rw [← hf] at d0 d1 d2
      have hsz := HI.out.sz
      obtain ⟨gp, gcc, hgu, _⟩ := HI.out.gr.shape
      rw [Hgl.out] at hgu
      subst hgu
      have hbox := HI.out.box.cell
      have hgr : Gr wr (.agg #[.slice gp g.length gcc]) gg := ⟨_, rfl, HI.out.gr⟩
      have HGR := Lib.hid hgr
      have hlbl : lb < wr.heap.size := World.block_lt_of_cell? _ _ d0
      have n1 : w.heap.size ≠ wr.heap.size := by omega
      have n2 : lb ≠ wr.heap.size := by omega
      have n3 := fun e => n1 (Eq.symm e)
      have n4 := fun e => n2 (Eq.symm e)
      clear hat h1 h1' h2 h3 h4 hon hf hgr hin
      go_upto_region 9 with (go_at_call 66; refine (l1Has_any _ lf (m : Int) _ HI.out.left).mono ?_; rintro e w4 ⟨he, rfl⟩; rw [HHAS.out] at he; subst he)
      go_cut [7, 8] (fun s7 s8 wx => ∃ fb, s7 = .pointer (some ⟨fb, 0, none⟩) ∧ s8 = .bool true ∧ wr.heap.size ≤ fb ∧ Below wr.heap.size wr wx ∧ wx.cell? ⟨fb, 0, none⟩ = some (.int .i64 (m : Int)) ∧ wx.cell? ⟨fb, 1, none⟩ = some (.int .i64 A) ∧ wx.cell? ⟨fb, 2, none⟩ = some (.int .i64 B))
      case first =>
        go_region_held3 (fun w' => w'.cell? ⟨w.heap.size, 0, none⟩ = some (.slice gp g.length gcc) ∧ w'.cell? ⟨lb, lo + k * 3, none⟩ = some (.int .i64 (m : Int)))
          (first | go_keep | exact ⟨q1, q2⟩ | exact ⟨(set3_below (f := wr.heap.size) w5 _ _ _ (Nat.le_refl _)).at (by omega) q1, (set3_below (f := wr.heap.size) w5 _ _ _ (Nat.le_refl _)).at hlbl q2⟩)
          (first | (go_at_call 67; refine (l20At_yes _ gg m hmn' _ (HGR.out.below (below_dN (Below.refl _ _) 1)) H2.out _ A B HAT.out).mono ?_; rintro e w5 ⟨rfl, hb5⟩; have hb5' : Below wr.heap.size wr w5 := ⟨hb5.os, hb5.tape, hb5.output, hb5.size, hb5.block⟩; have q1 := hb5'.at' hbox; have q2 := hb5'.at' d0) | (go_at_call 67; refine (l20At_yes _ gg m hmn' _ (HGR.out.below (below_dN (below_alloc _ _) 1)) H2.out _ A B HAT.out).mono ?_; rintro e w5 ⟨rfl, hb5⟩; have hb5' : Below wr.heap.size wr w5 := (below_dN (below_alloc wr (.cells #[.int .i64 0, .int .i64 0, .int .i64 0] 89)) 1).trans (hb5.mono (below_alloc wr _).size); have q1 := hb5'.at' hbox; have q2 := hb5'.at' d0; obtain ⟨z0, z1, z2⟩ := cell_new3 wr (.int .i64 0) (.int .i64 0) (.int .i64 0) 89; have y0 := hb5.at' z0; have y1 := hb5.at' z1; have y2 := hb5.at' z2; have yf : ∀ i, w5.frozen? ⟨wr.heap.size, i, none⟩ = false := fun i => (hb5.frozen (p := ⟨wr.heap.size, i, none⟩) (by show wr.heap.size < (wr.alloc _).heap.size; rw [size_alloc]; omega)).trans (frozen_new wr _ _ i)))
        · go_wp2
          go_meet
          obtain ⟨z0, z1, z2⟩ := cell_new3 w5 (.int .i64 (m : Int)) (.int .i64 A) (.int .i64 B) 89
          exact ⟨w5.heap.size, rfl, rfl, hb5'.size, hb5'.alloc hb5'.size _, z0, z1, z2⟩
        · go_wp2
          go_meet
          obtain ⟨x0, x1, x2⟩ := set3_cells (.int .i64 (m : Int)) (.int .i64 A) (.int .i64 B) y0 y1 y2
          exact ⟨wr.heap.size, rfl, rfl, Nat.le_refl _, hb5'.trans (set3_below _ _ _ _ (Nat.le_refl _)), x0, x1, x2⟩
      case rest =>
      obtain ⟨fb, rfl, rfl, hfb, hbc, f0, f1, f2⟩ := hcut
      have e0 := hbc.at' d0
      have e1 := hbc.at' d1
      have e2 := hbc.at' d2
      have HBC := Lib.hid hbc
      have s5 := hbc.size
      obtain ⟨w5, rfl⟩ : ∃ w5, w5 = wc := ⟨_, rfl⟩
      clear hbox d0 d1 d2 n1 n2 n3 n4 hlbl hbc
      have hneq := fold_neq (m : Int) A B
      have hgd := fold_guard
      go_upto_region 10 with fail
      go_cut [52] (fun s52 wx => s52 = .bool false ∧ Below w5.heap.size w5 wx)
      case first =>
        go_region_held3 (fun W => W.cell? ⟨fb, 0, none⟩ = some (.int .i64 (m : Int)) ∧ W.cell? ⟨fb, 1, none⟩ = some (.int .i64 A) ∧ W.cell? ⟨fb, 2, none⟩ = some (.int .i64 B) ∧ W.cell? ⟨lb, lo + k * 3, none⟩ = some (.int .i64 (m : Int)) ∧ W.cell? ⟨lb, lo + k * 3 + 1, none⟩ = some (.int .i64 A) ∧ W.cell? ⟨lb, lo + k * 3 + 2, none⟩ = some (.int .i64 B))
          (first | exact ⟨f0, f1, f2, e0, e1, e2⟩ | go_keep) (fail)
        all_goals go_wp2
        all_goals go_meet
        all_goals exact ⟨rfl, below_dN (Below.refl _ _) 1⟩
      case rest =>
      obtain ⟨rfl, hbd⟩ := hcut
      have f0 := hbd.at' f0
      have f1 := hbd.at' f1
      have f2 := hbd.at' f2
      have HBD : Hid (Below wr.heap.size wr wc) := Lib.hid (HBC.out.trans (hbd.mono s5))
      obtain ⟨w6, rfl⟩ : ∃ w6, w6 = wc := ⟨_, rfl⟩
      have HBX := Lib.hid (HI.out.box.keep HBD.out)
      have bx := HBX.out.cell
      have bxf := HBX.out.free
      have HGR6 := Lib.hid (HGR.out.below HBD.out)
      have HL6 := Lib.hid (HI.out.left.below HBD.out)
      have HFD6 := Lib.hid (HI.out.fds.below HBD.out)
      have hfbn : fb ≠ w.heap.size := by omega
      have hfbn' : w.heap.size ≠ fb := by omega
      have K1 : Hid (∀ j, j < gg.length → (row gg j).length ≤ 1000) := Lib.hid fun j hj => by have := HI.out.rl j (by rw [← Hgl.out]; exact hj); omega
      have K2 : Hid (gg.length ≤ 1000) := Lib.hid (by rw [Hgl.out]; omega)
      clear hbd hneq hgd e0 e1 e2
      go_wp2_with (first
        | (go_at_call 68; refine (l20Fold_any _ gg ⟨(m : Int), A, B⟩ K2.out K1.out _ HGR6.out).mono ?_; rintro e w8 ⟨_, rfl, hr8, ⟨p8, c8, rfl⟩, hb8⟩; have HB8 := Lib.hid (HBX.out.keep hb8); obtain ⟨bx8, bx8f, _, _⟩ := HB8.out; have y0 := hb8.at' f0; have HR8 := Lib.hid hr8; have HL8 := Lib.hid ((HL6.out.below hb8).setBox HB8.out (by decide) (.slice p8 gg.length c8)); clear hr8)
        | (go_at_call 69; refine (l19Less_any _ _ _ _ HL8.out).mono ?_; rintro e w9 ⟨lv9, rfl, hown9, hb9⟩))
      have hl9 : Nums w9 2 .i64 lv9 (lessL lf (m : Int)) := Nums.of_owns hown9 rfl (by obtain ⟨_, _, _, _, _, h, _⟩ := HL8.out; have := lessL_length lf (m : Int); omega)
      obtain ⟨lp9, lc9, rfl, _⟩ := id hl9
      have HL9 := Lib.hid hl9
      have HN : Hid (FkI w w9 g.length (k + 1) (.slice (some ⟨lb, lo, none⟩) fs.length fc) (.slice lp9 (lessL lf (m : Int)).length lc9) (.slice p8 gg.length c8) (foldG gg ⟨(m : Int), A, B⟩) (lessL lf (m : Int)) fs l g') := Lib.hid
        { bel := ((HI.out.bel.trans (HBD.out.mono HI.out.bel.size)).trans (hb8.mono (Nat.le_trans HI.out.bel.size HBD.out.size))).trans (((Below.refl _ _).setCell (p := ⟨w.heap.size, 0, none⟩) (Nat.le_refl _) _).trans (hb9.mono (by have := HI.out.bel.size; have := HBD.out.size; have := hb8.size; show w.heap.size ≤ (w8.setCell _ _).heap.size; simp [World.setCell]; omega)))
          sz := by have h1 := HBD.out.size; have h2 := hb8.size; have h3 := hb9.size; have h4 : (w8.setCell ⟨w.heap.size, 0, none⟩ (.slice p8 gg.length c8)).heap.size = w8.heap.size := by simp [World.setCell]
                   omega
          left := HL9.out
          fds := Sl.below (Sl.setBox (HFD6.out.below hb8) HB8.out (by decide) _) hb9
          box := (HB8.out.set _).keep hb9
          gr := (HR8.out.setBox HB8.out (by decide) (by decide) _).below hb9
          gl := by rw [foldG_length]; exact Hgl.out
          on := HNX.out
          inn := fun x hx => HI.out.inn x (mem_lessL.1 hx).1
          rl := fun j hj => by
            have h1 := HI.out.rl j hj
            have h3 := foldRow_length gg ⟨(m : Int), A, B⟩ j
            rw [row_foldG gg _ (by rw [Hgl.out]; exact hj)]
            omega }
      go_roundw
      case rel => exact ⟨k + 1, _, _, _, by omega, by go_num, HN, _, _, rfl⟩
      case measure => simp [intOf]; omega
    · obtain rfl : k = fs.length := by omega
      go_wp2_with fail
      go_ret
      exact ⟨rfl, HI.out.bel⟩

end Go.Proofs.YtfokiijcpkhllaaDoor
