/- Walks: the reference's TwoOrder. -/
import Derived.Test.YtgecghfaoonelaaDoorSpecD
namespace Go.Proofs.YtgecghfaoonelaaDoor
open Go.RowKit

/-- v reads as the folds fs. -/
def Fds (w : World) (v : Value) (fs : List Fd) : Prop := Sl w 52 v fs.length (fdCells fs)
theorem fdCells_get (fs : List Fd) : ∀ {k : Nat} (hk : k < fs.length), (fdCells fs)[k * 3]? = some (.int .i64 fs[k].V) ∧ (fdCells fs)[k * 3 + 1]? = some (.int .i64 fs[k].A) ∧ (fdCells fs)[k * 3 + 2]? = some (.int .i64 fs[k].B) := by
  induction fs with
  | nil => intro k hk; simp at hk
  | cons f fs ih =>
    intro k hk
    have e : fdCells (f :: fs) = .int .i64 f.V :: .int .i64 f.A :: .int .i64 f.B :: fdCells fs := rfl
    rw [e]
    cases k with
    | zero => exact ⟨rfl, rfl, rfl⟩
    | succ k =>
      obtain ⟨h1, h2, h3⟩ := ih (k := k) (by simpa using hk)
      rw [show (k + 1) * 3 = k * 3 + 1 + 1 + 1 by omega, show k * 3 + 1 + 1 + 1 + 1 = k * 3 + 1 + 1 + 1 + 1 from rfl, show k * 3 + 1 + 1 + 1 + 2 = k * 3 + 2 + 1 + 1 + 1 by omega]
      simp only [List.getElem?_cons_succ, List.getElem_cons_succ]
      exact ⟨h1, h2, h3⟩
theorem Fds.of_owns {w : World} {base : Nat} {v : Value} {fs : List Fd} (h : w.ownsRow base 52 3 v fs.length (fdCells fs)) (hn : fs.length ≤ 1000) : Fds w v fs := Sl.of_owns h (by omega)
theorem Fds.below {w w' : World} {v : Value} {fs : List Fd} (h : Fds w v fs) (hb : Below w.heap.size w w') : Fds w' v fs := Sl.below h hb
theorem Fds.shape {w : World} {v : Value} {fs : List Fd} (h : Fds w v fs) : ∃ p c, v = .slice p fs.length c ∧ (p = none → fs.length = 0 ∧ c = 0) ∧ fs.length ≤ c ∧ fs.length ≤ 1000000000 ∧ At w 52 p (fdCells fs) := h
theorem At.fold {w : World} {p : Option Addr} {fs : List Fd} (h : At w 52 p (fdCells fs)) {k : Nat} (hk : k < fs.length) :
    ∃ b o, p = some ⟨b, o, none⟩ ∧ w.cell? ⟨b, o + k * 3, none⟩ = some (.int .i64 fs[k].V) ∧ w.cell? ⟨b, o + k * 3 + 1, none⟩ = some (.int .i64 fs[k].A) ∧ w.cell? ⟨b, o + k * 3 + 2, none⟩ = some (.int .i64 fs[k].B) := by
  obtain ⟨b, o, h1, h2⟩ := h.cells (k := k) (by rw [fdCells_length]; omega)
  obtain ⟨e1, e2, e3⟩ := fdCells_get fs hk
  exact ⟨b, o, h1, h2 _ _ e1, by rw [Nat.add_assoc]; exact h2 _ _ e2, by rw [Nat.add_assoc]; exact h2 _ _ e3⟩

/-- The order of a graph that folds away. -/
def TwoS (g : List (List Int)) (ys : List Int) : Prop := (SerS g ∧ ∃ fs l, FoldedS g fs l ∧ ys = fs.map Fd.V) ∨ (¬ SerS g ∧ ys = [])

theorem foldedS_det {g : List (List Int)} {fs fs2 : List Fd} {l l2 : List Int} (h : FoldedS g fs l) (h2 : FoldedS g fs2 l2) : fs = fs2 ∧ l = l2 := by
  rcases h with ⟨hg, g', h⟩ | ⟨hg, rfl, rfl⟩ <;> rcases h2 with ⟨hg2, g2, h2⟩ | ⟨hg2, rfl, rfl⟩
  · obtain ⟨e1, e2, _⟩ := folds_det h h2
    exact ⟨e1, e2⟩
  · exact absurd hg hg2
  · exact absurd hg2 hg
  · exact ⟨rfl, rfl⟩
theorem twoS_det {g : List (List Int)} {ys zs : List Int} (h : TwoS g ys) (h2 : TwoS g zs) : ys = zs := by
  rcases h with ⟨hg, fs, l, h, rfl⟩ | ⟨hg, rfl⟩ <;> rcases h2 with ⟨hg2, fs2, l2, h2, rfl⟩ | ⟨hg2, rfl⟩
  · rw [(foldedS_det h h2).1]
  · exact absurd hg hg2
  · exact absurd hg2 hg
  · rfl

set_option maxRecDepth 100000 in
set_option maxHeartbeats 4000000 in
theorem specTwoOrder_any (v : Value) (g : List (List Int)) (w : World) (hg : Gr w v g) :
    Calls Tryd.prog 9 #[v] w fun e w' => ∃ (ov : Value) (ys : List Int), e = .returned (.tuple #[ov, .bool (dec (SerS g))]) ∧ TwoS g ys ∧ ys.length ≤ 16 ∧
      w'.ownsRow w.heap.size 2 1 ov ys.length (ys.map (Value.int .i64)) ∧ Below w.heap.size w w' := by
  have hg0 := hg
  obtain ⟨u, rfl, hr⟩ := hg
  obtain ⟨p, c, rfl, _, _, _⟩ := hr.shape
  have hbA := Lib.hid (below_alloc2 w (.cells #[.slice p g.length c] 29) (.cells #[] 2))
  have HG := Lib.hid (hg0.below hbA.out)
  have BX := Lib.hid ((Box.new w (.slice p g.length c) 29).alloc (.cells #[] 2))
  have HO := Lib.hid (ownsRow_empty' w (.cells #[.slice p g.length c] 29) 2 1 (w.heap.size + 1) (Nat.le_refl _))
  clear hr hg0
  by_cases hok : SerS g
  case neg =>
    have hd := dec_false hok
    have Hok := Lib.hid hok
    clear hok
    go_enter Tryd.func9, Tryd.ntmps9
    go_wp2_with (go_at_call 33; refine (specSeriesIn_any _ g _ HG.out).mono ?_; rintro e w2 ⟨rfl, hb2⟩)
    go_ret2
    exact ⟨.slice (some ⟨w.heap.size + 1, 0, none⟩) 0 0, [], by rw [hd]; rfl, .inr ⟨Hok.out, rfl⟩, by simp, ownsRow_base (ownsRow_below HO.out hb2) (by omega), hbA.out.trans (hb2.mono hbA.out.size)⟩
  have hd := dec_true hok
  have Hok := Lib.hid hok
  clear hok
  go_enter Tryd.func9, Tryd.ntmps9
  go_wp2_with (first
    | (go_at_call 33; refine (specSeriesIn_any _ g _ HG.out).mono ?_; rintro e w2 ⟨rfl, hb2⟩; have hbx := (BX.out.keep hb2).cell; have hbf := (BX.out.keep hb2).free)
    | (go_at_call 17; refine (specFoldedOf_any _ g _ (HG.out.below hb2)).mono ?_; rintro e w3 ⟨ov, lv, fs, l, rfl, hF, ho, hn, hfl, _, hb3⟩; have HF := Lib.hid hF; have hfd := Lib.hid (Fds.of_owns ho (by omega)); obtain ⟨fp, fc, rfl, _⟩ := hfd.out.shape))
  clear ho hn hF
  have hb23 := hb2.trans (hb3.mono hb2.size)
  have h3 : w.heap.size + 1 < w3.heap.size := by have := hb23.size; rw [size_alloc, size_alloc] at this; omega
  have HB3 := Lib.hid (hbA.out.trans (hb23.mono hbA.out.size))
  have HO3 := Lib.hid (ownsRow_below HO.out hb23)
  clear hbx hbf hb2 hb3 hb23
  go_loopw [4, 7] (fun u i wr => ∃ k : Nat, k ≤ fs.length ∧ i = .int .i64 k ∧ wr.ownsRow (w.heap.size + 1) 2 1 u k ((fs.take k).map fun f => Value.int .i64 f.V) ∧ Fds wr (.slice fp fs.length fc) fs ∧ Below w.heap.size w wr ∧ w.heap.size + 1 < wr.heap.size)
    (fun _ i _ => fs.length - (intOf i).toNat)
  case atStart => exact ⟨0, Nat.zero_le _, rfl, HO3.out, hfd.out, HB3.out, h3⟩
  case round =>
    obtain ⟨k, hk, rfl, hown, hfds, hbel, hw1⟩ := hrel
    have hsz := hbel.size
    by_cases hlt : k < fs.length
    · obtain ⟨_, _, e1, _, _, _, hat⟩ := id hfds.shape
      cases e1
      obtain ⟨b, o, rfl, hc, _, _⟩ := hat.fold hlt
      have Hfds := Lib.hid hfds
      clear hat hfds
      have ht := Lib.hid (take_snoc fs k hlt)
      go_wp2_with (at_builtin; refine wpList_app1 ty_i64 rfl rfl rfl hown rfl rfl (by omega) (by omega) ?_; intro v' w1 hown' hg _)
      go_roundw
      case rel =>
        refine ⟨k + 1, by omega, by go_num, ?_, Sl.other Hfds.out hown hg (by decide), below_grown hbel hown hg (by omega) hsz, by have := hg.size; omega⟩
        rw [ht.out, List.map_append]; exact hown'
      case measure => simp [intOf]; omega
    · obtain rfl : k = fs.length := by omega
      clear hfds
      go_wp2
      go_ret2
      rw [List.take_length] at hown
      exact ⟨u4, fs.map Fd.V, by rw [hd]; rfl, .inl ⟨Hok.out, fs, l, HF.out, rfl⟩, by simpa using hfl, by rw [List.length_map, List.map_map]; exact ownsRow_base hown (by omega), hbel⟩

end Go.Proofs.YtgecghfaoonelaaDoor
