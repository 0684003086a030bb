/- Walks: a graph and two numbers, drawn (l1From, l1DrawPair, DrawCutEdge, DrawContracted). -/
import Derived.Test.YtjdlmjmhlbpooaaDoorCoQ27
import Derived.Test.YtjdlmjmhlbpooaaDoorCoQ30
namespace Go.Proofs.YtjdlmjmhlbpooaaDoor
open Go.RowKit

theorem Gr.curedC {w0 w w' : World} {cb : Nat} {bs : List Int} (h : Cur w0 w cb bs) (hg : w.grownBy w' (some cb)) {v : Value} {g : List (List Int)} (hs : Gr w v g) : Gr w' v g := by
  obtain ⟨u, rfl, vals, h1, h2, h3⟩ := hs
  exact ⟨u, rfl, vals, h1, Sl.cured h hg (by decide) h2, fun j hj => Sl.cured h hg (by decide) (h3 j hj)⟩
theorem PrsO.curedC {w0 w w' : World} {cb base : Nat} {bs : List Int} (h : Cur w0 w cb bs) (hg : w.grownBy w' (some cb)) {v : Value} {l : List (Nat × Nat)} (hs : PrsO w base v l) : PrsO w' base v l := by
  obtain ⟨vals, h1, h2, h3⟩ := hs
  exact ⟨vals, h1, ownsRow_cured h hg (by decide) h2, fun j hj => Sl.cured h hg (by decide) (h3 j hj)⟩

set_option maxRecDepth 100000 in
set_option maxHeartbeats 1000000 in
theorem l1From_any (w0 : World) (cb : Nat) (bs : List Int) (hi : Int) (h0 : 0 ≤ hi) (h1 : hi ≤ 1000) (w : World) (hc : Cur w0 w cb bs) :
    Calls Tryd.prog 152 #[.pointer (some ⟨cb, 0, none⟩), .int .i64 (-1), .int .i64 hi] w fun e w' => ∃ z : Int, e = .returned (.int .i64 z) ∧ Cur w0 w' cb bs ∧ w.grownBy w' (some cb) := by
  have HC := Lib.hid hc
  have hwr : IntKind.i64.wrap (hi - (-1)) = hi + 1 := by rw [IntKind.wrap_i64]; omega
  have hwr1 : IntKind.i64.wrap (hi + 1) = hi + 1 := by rw [IntKind.wrap_i64]; omega
  have hwr2 : IntKind.i64.wrap (hi + 1 + 1) = hi + 2 := by rw [IntKind.wrap_i64]; omega
  clear hc
  go_enter Tryd.func152, Tryd.ntmps152
  go_wp2_with (go_at_call 125; refine (l1Below_any w0 cb bs (hi + 2) (by omega) _ HC.out).mono ?_; rintro e w2 ⟨r, rfl, _, _, hc2, hg2⟩; have HC2 := Lib.hid hc2; have HG2 := Lib.hid hg2; clear hc2 hg2)
  go_ret
  exact ⟨_, rfl, HC2.out, HG2.out⟩

set_option maxRecDepth 100000 in
set_option maxHeartbeats 4000000 in
theorem l1DrawPair_any (w0 : World) (cb : Nat) (bs : List Int) (w : World) (hc : Cur w0 w cb bs) :
    Calls Tryd.prog 130 #[.pointer (some ⟨cb, 0, none⟩)] w fun e w' => ∃ (p : Option Addr) (c : Nat) (g : List (List Int)) (x y : Int), e = .returned (.tuple #[.agg #[.slice p g.length c], .int .i64 x, .int .i64 y]) ∧ Gr w' (.agg #[.slice p g.length c]) g ∧ g.length ≤ 17 ∧ (∀ j, (row g j).length ≤ 17) ∧ Cur w0 w' cb bs ∧ w.grownBy w' (some cb) := by
  have hcb := hc.cb_lt
  have HB := Lib.hid (below_alloc w (.cells #[.slice none 0 0] 29))
  have HC1 := Lib.hid (hc.keep HB.out)
  have HR1 := Lib.hid (Box.new w (.slice none 0 0) 29)
  clear hc
  go_enter Tryd.func130, Tryd.ntmps130
  go_upto_region 2 with (go_at_call 81; refine (l1DrawAny_any w0 cb bs _ HC1.out).mono ?_; rintro e w2 ⟨u, g, rfl, hg, hgl, hgr, hc2, hg2⟩; obtain ⟨gu, rfl, hgr2⟩ := hg; obtain ⟨gp, gc, rfl, _⟩ := hgr2.shape; have HC2 := Lib.hid hc2; have HR2 := Lib.hid (HR1.out.cured HC1.out hg2 (by decide)); have HW2 := Lib.hid (grown_trans (grown_of_below HB.out _) hg2); clear hc2 hg2)
  obtain ⟨w3, hw3⟩ : ∃ w3, w3 = w2.alloc (.cells #[.slice gp g.length gc] 29) := ⟨_, rfl⟩
  rw [← hw3]
  have hba : Below w2.heap.size w2 w3 := by rw [hw3]; exact below_alloc _ _
  have HX3 : Hid (Box w3 w2.heap.size 29 (.slice gp g.length gc)) := Lib.hid (by rw [hw3]; exact Box.new _ _ _)
  have HG3 : Hid (Gr w3 (.agg #[.slice gp g.length gc]) g) := Lib.hid ⟨_, rfl, hgr2.below hba⟩
  have HC3 := Lib.hid (HC2.out.keep hba)
  have HR3 := Lib.hid (HR2.out.keep hba)
  have HW3 := Lib.hid (grown_trans HW2.out (grown_of_below hba _))
  have c3 := HX3.out.cell
  generalize w2.heap.size = bx at *
  clear hw3 hba hgr2 HC1 HR1 HC2 HR2 HW2
  go_upto_region 4 with (go_at_call 152; refine (l1From_any w0 cb bs (g.length : Int) (by omega) (by omega) _ HC3.out).mono ?_; rintro e w4 ⟨x, rfl, hc4, hg4⟩; have HC4 := Lib.hid hc4; have HX4 := Lib.hid (HX3.out.cured HC3.out hg4 (by decide)); have HG4 := Lib.hid (HG3.out.curedC HC3.out hg4); have HR4 := Lib.hid (HR3.out.cured HC3.out hg4 (by decide)); have HW4 := Lib.hid (grown_trans HW3.out hg4); have c4 := HX4.out.cell; clear hc4 hg4)
  have HBD := Lib.hid (below_dN (Below.refl w4.heap.size w4) 1)
  go_region_law (first | (go_simp; go_at_call 152; refine (l1From_any w0 cb bs (g.length : Int) (by omega) (by omega) _ (HC4.out.keep (below_dN (Below.refl _ _) 1))).mono ?_; rintro e w5 ⟨y, rfl, hc5, hg5⟩; have HC5 := Lib.hid hc5; have HCD := Lib.hid (HC4.out.keep (below_dN (Below.refl w4.heap.size w4) 1)); have HX5 := Lib.hid ((HX4.out.keep (below_dN (Below.refl _ _) 1)).cured HCD.out hg5 (by decide)); have HG5 := Lib.hid ((HG4.out.below (below_dN (Below.refl _ _) 1)).curedC HCD.out hg5); have HR5 := Lib.hid ((HR4.out.keep (below_dN (Below.refl _ _) 1)).cured HCD.out hg5 (by decide)); have HW5 := Lib.hid (grown_trans (grown_trans HW4.out (grown_of_below (below_dN (Below.refl w4.heap.size w4) 1) _)) hg5); have c5 := HX5.out.cell; obtain ⟨nc, nf, nl, nB⟩ := id HR5.out; clear hc5 hg5))
  all_goals go_wp2
  all_goals
    obtain ⟨nc, nf, nl, nB⟩ := id HR5.out
    refine bodyPost_ret (v := .tuple #[.agg #[.slice gp g.length gc], .int .i64 x, .int .i64 y]) (by simp [results, Tryd.results130, go_sem, nc]) rfl ⟨gp, gc, g, x, y, rfl, gr_setBox HG5.out ⟨nc, nf, nl, nB⟩ _, hgl, hgr, HC5.out.setCell hcb _, ?_⟩
    exact grown_newD HW5.out (Nat.le_refl _) _

theorem edgesE_bound {g : List (List Int)} {w : World} {be : Nat} {u : Value} (hp : (GOk g ∧ PrsO w be u (edN g.length (ofG g) g.length)) ∨ (¬ GOk g ∧ PrsO w be u [])) : ∃ l : List (Nat × Nat), l.length ≤ 256 ∧ PrsO w be u l := by
  rcases hp with h | h
  · refine ⟨_, ?_, h.2⟩
    have h1 := edN_length g.length (ofG g) g.length
    have h16 := h.1.le
    have : g.length * g.length ≤ 16 * 16 := Nat.mul_le_mul h16 h16
    omega
  · exact ⟨[], by simp, h.2⟩

set_option maxRecDepth 100000 in
set_option maxHeartbeats 4000000 in
theorem drawCutEdge_any (v : Value) (bs : List Int) (hl : bs.length ≤ 4096) (w : World) (ha : ArgB w v bs) :
    Calls Tryd.prog 107 #[v] w fun e w' => ∃ (p : Option Addr) (c : Nat) (g : List (List Int)) (x y : Int), e = .returned (.tuple #[.agg #[.slice p g.length c], .int .i64 x, .int .i64 y]) ∧ Gr w' (.agg #[.slice p g.length c]) g ∧ g.length ≤ 17 ∧ (∀ j, (row g j).length ≤ 17) ∧ Below w.heap.size w w' := by
  obtain ⟨p, c, e0, _⟩ := id ha
  subst e0
  obtain ⟨W0, hW0⟩ : ∃ W0, W0 = w.alloc (.cells #[.slice none 0 0] 29) := ⟨_, rfl⟩
  have HB : Hid (Below w.heap.size w W0) := Lib.hid (by rw [hW0]; exact below_alloc _ _)
  have HA := Lib.hid (ha.below HB.out)
  have HR : Hid (Box W0 w.heap.size 29 (.slice none 0 0)) := Lib.hid (by rw [hW0]; exact Box.new _ _ _)
  clear ha
  go_enter Tryd.func107, Tryd.ntmps107
  go_upto_region 1 with fail
  rw [← hW0]
  clear hW0
  go_upto_region 3 with (first
    | (go_at_call 130; refine (l1DrawPair_any W0 cb bs _ HC1.out).mono ?_; rintro e w2 ⟨gp, gc, g, x, y, rfl, hg, hgl, hgr, hc2, hg2⟩; have HC2 := Lib.hid hc2; have HG2 := Lib.hid hg; have HR2 := Lib.hid (HR1.out.cured HC1.out hg2 (by decide)); clear hc2 hg hg2)
    | (go_at_call 80; refine (l1New_any _ bs hl _ HA.out).mono ?_; rintro e w1 ⟨cb, rfl, hc1, hb1⟩; have HC1 := Lib.hid hc1; have HR1 := Lib.hid (HR.out.keep hb1); clear hc1 hb1))
  obtain ⟨w3, hw3⟩ : ∃ w3, w3 = w2.alloc (.cells #[.slice gp g.length gc] 29) := ⟨_, rfl⟩
  rw [← hw3]
  have hba : Below w2.heap.size w2 w3 := by rw [hw3]; exact below_alloc _ _
  have HX3 : Hid (Box w3 w2.heap.size 29 (.slice gp g.length gc)) := Lib.hid (by rw [hw3]; exact Box.new _ _ _)
  have HG3 := Lib.hid (HG2.out.below hba)
  have HC3 := Lib.hid (HC2.out.keep hba)
  have HR3 := Lib.hid (HR2.out.keep hba)
  have c3 := HX3.out.cell
  generalize w2.heap.size = bx at *
  clear hw3 hba HC2 HR2 HG2 HC1 HR1
  go_upto_region 4 with (go_at_call 34; refine (specEdgesE_any _ g _ HG3.out).mono ?_; rintro e w4 ⟨u, be, rfl, hp, hb4⟩; obtain ⟨l, hl256, hpl⟩ := edgesE_bound hp; obtain ⟨ep, ec, rfl⟩ := hpl.shape; have HP4 := Lib.hid hpl; have HC4 := Lib.hid (HC3.out.keep hb4); have HX4 := Lib.hid (HX3.out.keep hb4); have HG4 := Lib.hid (HG3.out.below hb4); have HR4 := Lib.hid (HR3.out.keep hb4); clear hp hpl hb4)
  clear HC3 HX3 HG3 HR3 c3
  go_cut [28] (fun s wx => ∃ z : Bool, s = .bool z ∧ (z = true → 0 < l.length) ∧ Cur W0 wx cb bs ∧ Box wx bx 29 (.slice gp g.length gc) ∧ Gr wx (.agg #[.slice gp g.length gc]) g ∧ Box wx w.heap.size 29 (.slice none 0 0) ∧ PrsO wx be (.slice ep l.length ec) l)
  case first =>
    by_cases he : l.length = 0
    · obtain rfl : l = [] := List.eq_nil_of_length_eq_zero he
      clear he
      go_wp2_with fail
      go_meet
      exact ⟨false, rfl, by simp, HC4.out, HX4.out, HG4.out, HR4.out, HP4.out⟩
    · have e3 : (0 : Int) < (l.length : Int) := by omega
      have hl0 : 0 < l.length := by omega
      clear he
      go_wp2_with (go_at_call 124; refine (l1Once_any W0 cb bs 3 (by decide) _ HC4.out).mono ?_; rintro e w5 ⟨b, rfl, hc5, hg5⟩; have HC5 := Lib.hid hc5; have HX5 := Lib.hid (HX4.out.cured HC4.out hg5 (by decide)); have HG5 := Lib.hid (HG4.out.curedC HC4.out hg5); have HR5 := Lib.hid (HR4.out.cured HC4.out hg5 (by decide)); have HP5 := Lib.hid (HP4.out.curedC HC4.out hg5); clear hc5 hg5)
      go_meet
      exact ⟨_, rfl, fun _ => hl0, HC5.out, HX5.out, HG5.out, HR5.out, HP5.out⟩
  case rest =>
  obtain ⟨z, rfl, hz, hc5, hx5, hg5, hr5, hp5⟩ := hcut
  have HC5 := Lib.hid hc5
  have HX5 := Lib.hid hx5
  have HG5 := Lib.hid hg5
  have HR5 := Lib.hid hr5
  have HP5 := Lib.hid hp5
  clear hc5 hx5 hg5 hr5 hp5 HC4 HX4 HG4 HR4 HP4
  cases z
  · have cx := HX5.out.cell
    obtain ⟨nc, nf, nl, nB⟩ := id HR5.out
    go_wp2_with fail
    refine bodyPost_ret (v := .tuple #[.agg #[.slice gp g.length gc], .int .i64 x, .int .i64 y]) (by simp [results, Tryd.results107, go_sem, nc]) rfl ⟨gp, gc, g, x, y, rfl, gr_setBox HG5.out ⟨nc, nf, nl, nB⟩ _, hgl, hgr, ?_⟩
    exact (HB.out.trans (HC5.out.bel.mono HB.out.size)).setCell (by show w.heap.size ≤ w.heap.size; omega) _
  · have hl0 := hz rfl
    go_upto_region 6 with (go_at_call 125; refine (l1Below_any W0 cb bs (l.length : Int) (by omega) _ HC5.out).mono ?_; rintro e w6 ⟨r, rfl, hr, _, hc6, hg6⟩; have hr0 := hr (by omega); (have hr1 : r < l.length := (by omega)); have HC6 := Lib.hid hc6; have HX6 := Lib.hid (HX5.out.cured HC5.out hg6 (by decide)); have HG6 := Lib.hid (HG5.out.curedC HC5.out hg6); have HR6 := Lib.hid (HR5.out.cured HC5.out hg6 (by decide)); obtain ⟨eb, eo, rp, rc, hepp, hce, hne⟩ := (HP5.out.curedC HC5.out hg6).get hr1; subst hepp; have HNE := Lib.hid hne; have HNS := Lib.hid (hne.setBox HR6.out (by decide) (.slice gp g.length gc)); clear hr hr0 hc6 hg6 hne)
    obtain ⟨⟨a, b⟩, hab⟩ : ∃ e : Nat × Nat, e = l[r] := ⟨_, rfl⟩
    have hne := HNE.out
    rw [← hab] at hne
    simp only at hne
    obtain ⟨rb, ro, rfl, hc0⟩ := hne.get (k := 0) (by simp)
    obtain ⟨_, _, e1, hc1⟩ := hne.get (k := 1) (by simp)
    cases e1
    have hns := HNS.out
    rw [← hab] at hns
    obtain ⟨_, _, e1, hs0⟩ := hns.get (k := 0) (by simp)
    cases e1
    obtain ⟨_, _, e1, hs1⟩ := hns.get (k := 1) (by simp)
    cases e1
    simp only [List.getElem_cons_zero, List.getElem_cons_succ, Nat.add_zero] at hc0 hc1 hs0 hs1
    clear hne hab HNE HNS hns HP5 HX5 HG5 HR5
    have cx := HX6.out.cell
    obtain ⟨nc, nf, nl, nB⟩ := id HR6.out
    have HFB := Lib.hid (HB.out.trans (HC6.out.bel.mono HB.out.size))
    go_region_law (fail)
    all_goals go_wp2
    all_goals
      refine bodyPost_ret (v := .tuple #[.agg #[.slice gp g.length gc], .int .i64 (b : Int), .int .i64 (a : Int)]) (by simp [results, Tryd.results107, go_sem, nc]) rfl ⟨gp, gc, g, (b : Int), (a : Int), rfl, ?_, hgl, hgr, ?_⟩
      all_goals first
        | exact gr_setBox HG6.out ⟨nc, nf, nl, nB⟩ _
        | exact (gr_setBox HG6.out ⟨nc, nf, nl, nB⟩ _).below (below_dN (Below.refl _ _) 1)
        | exact HFB.out.setCell (Nat.le_refl _) _
        | exact below_dN (HFB.out.setCell (Nat.le_refl _) _) 1
        | trace_state

set_option maxRecDepth 100000 in
set_option maxHeartbeats 4000000 in
theorem drawContracted_any (v : Value) (bs : List Int) (hl : bs.length ≤ 4096) (w : World) (ha : ArgB w v bs) :
    Calls Tryd.prog 47 #[v] w fun e w' => ∃ (p : Option Addr) (c : Nat) (g : List (List Int)) (x y : Int), e = .returned (.tuple #[.agg #[.slice p g.length c], .int .i64 x, .int .i64 y]) ∧ Gr w' (.agg #[.slice p g.length c]) g ∧ g.length ≤ 17 ∧ (∀ j, (row g j).length ≤ 17) ∧ Below w.heap.size w w' := by
  obtain ⟨p, c, e0, _⟩ := id ha
  subst e0
  have HB := Lib.hid (below_alloc w (.cells #[.slice none 0 0] 29))
  have HA := Lib.hid (ha.below HB.out)
  have HR := Lib.hid (Box.new w (.slice none 0 0) 29)
  clear ha
  go_enter Tryd.func47, Tryd.ntmps47
  go_wp2_with (go_at_call 107; refine (drawCutEdge_any _ bs hl _ HA.out).mono ?_; rintro e w2 ⟨gp, gc, g, x, y, rfl, hg, hgl, hgr, hb2⟩; have HG2 := Lib.hid hg; have HB2 := Lib.hid hb2; obtain ⟨nc, nf, nl, nB⟩ := HR.out.keep hb2; clear hg hb2)
  refine bodyPost_ret (v := .tuple #[.agg #[.slice gp g.length gc], .int .i64 x, .int .i64 y]) (by simp [results, Tryd.results47, go_sem, nc]) rfl ⟨gp, gc, g, x, y, rfl, gr_setBox HG2.out ⟨nc, nf, nl, nB⟩ _, hgl, hgr, ?_⟩
  exact (HB.out.trans (HB2.out.mono HB.out.size)).setCell (by show w.heap.size ≤ w.heap.size; omega) _

end Go.Proofs.YtjdlmjmhlbpooaaDoor
