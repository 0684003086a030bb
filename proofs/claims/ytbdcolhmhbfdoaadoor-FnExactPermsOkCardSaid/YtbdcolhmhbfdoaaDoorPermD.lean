/- Walks: PermGraph and CrossIn, of both. -/
import Derived.Test.YtbdcolhmhbfdoaaDoorPermB
import Derived.Test.YtbdcolhmhbfdoaaDoorPermC
import Derived.Test.YtbdcolhmhbfdoaaDoorEdgesP
namespace Go.Proofs.YtbdcolhmhbfdoaaDoor
open Go.RowKit

theorem permG_ok {a b : List Int} (h : LinesOk a b) : GOk (matG a.length (crN a b)) := by
  have e : matG a.length (crN a b) = matG a.length (fun r j => decide (r < a.length) && decide (j < a.length) && crN a b r j) := matG_congr fun r j hr hj => by simp [hr, hj]
  rw [e]
  refine gok_matG h.1.1 h.1.2.1 (fun r j hE => ?_) (fun r => by simp [crN, crE])
  simp only [Bool.and_eq_true, decide_eq_true_eq] at hE ⊢
  exact ⟨⟨hE.1.2, hE.1.1⟩, by rw [(crN_sym h).sym j r hE.1.2 hE.1.1]; exact hE.2⟩

set_option maxRecDepth 100000 in
set_option maxHeartbeats 2000000 in
theorem specPermGraph_any (av bv : Value) (a b : List Int) (w : World) (ha : Nums w 2 .i64 av a) (hb : Nums w 2 .i64 bv b) :
    Calls Tryd.prog 34 #[av, bv] w fun e w' => ∃ (u : Value) (gg : List (List Int)) (ok : Bool), e = .returned (.tuple #[u, .bool ok]) ∧ PermS a b gg ok ∧ DG w' w.heap.size u gg ∧ gg.length ≤ 16 ∧ (∀ j, (row gg j).length ≤ 16) ∧ Below w.heap.size w w' := by
  obtain ⟨ap, ac, rfl, _⟩ := id ha.shape
  obtain ⟨bp, bc, rfl, _⟩ := id hb.shape
  have hbA := Lib.hid (below_alloc w (.cells #[.slice none 0 0] 27))
  have BN := Lib.hid (Box.new w (.slice none 0 0) 27)
  have HA := Lib.hid (ha.below hbA.out)
  have HB := Lib.hid (hb.below hbA.out)
  have h0 := hbA.out.size
  clear ha hb
  by_cases hok : LinesOk a b
  case neg =>
    have hd := dec_false hok
    have Hok := Lib.hid hok
    clear hok
    go_enter Tryd.func34, Tryd.ntmps34
    go_wp2_with (go_at_call 54; refine (l15Lines_any _ _ a b _ HA.out HB.out).mono ?_; rintro e w2 ⟨he, hb2⟩; rw [hd] at he; subst he; obtain ⟨nc, nf, nl, nB⟩ := BN.out.keep hb2)
    refine bodyPost_ret (v := .tuple #[.agg #[.slice none 0 0], .bool false]) (by simp [results, Tryd.results34, go_sem, nc]) rfl ⟨_, [], false, rfl, .inr ⟨rfl, rfl, Hok.out⟩, dg_nil' _ _, by simp, fun j => by simp [row], ?_⟩
    exact (hbA.out.trans (hb2.mono hbA.out.size)).setCell (by show w.heap.size ≤ w.heap.size; omega) _
  have hd := dec_true hok
  have h16 := hok.1.2.1
  have Hok := Lib.hid hok
  clear hok
  go_enter Tryd.func34, Tryd.ntmps34
  go_wp2_with (first
    | (go_at_call 58; refine (l15Graph_any _ _ a b Hok.out _ (HA.out.below hb2) (HB.out.below hb2)).mono ?_; rintro e w3 ⟨u3, rfl, hs3, hb3⟩; obtain ⟨p3, c3, rfl⟩ := hs3.shape; obtain ⟨mc, mf, ml, mB⟩ := (BN.out.keep hb2).keep hb3)
    | (go_at_call 54; refine (l15Lines_any _ _ a b _ HA.out HB.out).mono ?_; rintro e w2 ⟨he, hb2⟩; rw [hd] at he; subst he))
  have hml := matG_length a.length (crN a b)
  have h2 := hb2.size
  rw [size_alloc] at h2
  refine bodyPost_ret (v := .tuple #[.agg #[.slice p3 (matG a.length (crN a b)).length c3], .bool true]) (by simp [results, Tryd.results34, go_sem, mc]) rfl ⟨_, _, true, rfl, .inl ⟨rfl, Hok.out, rfl⟩, (hs3.setBox ⟨mc, mf, ml, mB⟩ _).base (by omega), by omega, fun j => Nat.le_trans (matG_row_le j) (by omega), ?_⟩
  exact ((hbA.out.trans (hb2.mono hbA.out.size)).trans (hb3.mono (by rw [size_alloc] at h0; omega))).setCell (by show w.heap.size ≤ w.heap.size; omega) _

set_option maxRecDepth 100000 in
set_option maxHeartbeats 2000000 in
theorem implPermGraph_any (av bv : Value) (a b : List Int) (w : World) (ha : Nums w 2 .i64 av a) (hb : Nums w 2 .i64 bv b) (hT : Tab w) :
    Calls Tryd.prog 35 #[av, bv] w fun e w' => ∃ (u : Value) (gg : List (List Int)) (ok : Bool), e = .returned (.tuple #[u, .bool ok]) ∧ PermS a b gg ok ∧ DG w' w.heap.size u gg ∧ gg.length ≤ 16 ∧ (∀ j, (row gg j).length ≤ 16) ∧ Below w.heap.size w w' := by
  obtain ⟨ap, ac, rfl, _⟩ := id ha.shape
  obtain ⟨bp, bc, rfl, _⟩ := id hb.shape
  have hbA := Lib.hid (below_alloc w (.cells #[.slice none 0 0] 27))
  have BN := Lib.hid (Box.new w (.slice none 0 0) 27)
  have HA := Lib.hid (ha.below hbA.out)
  have HB := Lib.hid (hb.below hbA.out)
  have HT := Lib.hid (hT.keep hbA.out)
  have h0 := hbA.out.size
  clear ha hb hT
  by_cases hok : LinesOk a b
  case neg =>
    have hd := dec_false hok
    have Hok := Lib.hid hok
    clear hok
    go_enter Tryd.func35, Tryd.ntmps35
    go_wp2_with (go_at_call 59; refine (crossings_any _ _ a b _ HA.out HB.out).mono ?_; rintro e w2 ⟨u2, he, _, hn2, hb2⟩; rw [hd] at he; subst he; have hn2' := hn2 Hok.out; subst hn2'; clear hn2; obtain ⟨nc, nf, nl, nB⟩ := BN.out.keep hb2)
    refine bodyPost_ret (v := .tuple #[.agg #[.slice none 0 0], .bool false]) (by simp [results, Tryd.results35, go_sem, nc]) rfl ⟨_, [], false, rfl, .inr ⟨rfl, rfl, Hok.out⟩, dg_nil' _ _, by simp, fun j => by simp [row], ?_⟩
    exact (hbA.out.trans (hb2.mono hbA.out.size)).setCell (by show w.heap.size ≤ w.heap.size; omega) _
  have hd := dec_true hok
  have h16 := hok.1.2.1
  have Hok := Lib.hid hok
  clear hok
  have hil := indN_length a.length (crN a b)
  have Hl16 := Lib.hid (indN_lt16 (E := crN a b) h16)
  have erow := Lib.hid (rowsOf_indN h16 (crN a b))
  go_enter Tryd.func35, Tryd.ntmps35
  go_wp2_with (first
    | (go_at_call 46; refine (graph_any _ (indN a.length (crN a b)) Hl16.out (by omega) _ HX2.out (HT.out.keep hb2)).mono ?_; rintro e w6 ⟨u6, rfl, hd6, hb6⟩; rw [erow.out] at hd6; obtain ⟨p6, c6, rfl⟩ := hd6.shape; obtain ⟨mc, mf, ml, mB⟩ := (BN.out.keep hb2).keep hb6)
    | (go_at_call 59; refine (crossings_any _ _ a b _ HA.out HB.out).mono ?_; rintro e w2 ⟨u2, he, hy2, hn2, hb2⟩; rw [hd] at he; subst he; have ho2 := hy2 Hok.out; have HX2 : Hid (Sl w2 73 u2 (indN a.length (crN a b)).length ((indN a.length (crN a b)).map u32v)) := Lib.hid (by rw [hil]; exact Sl.of_owns ho2 (by omega)); clear ho2 hn2 hy2))
  have hml := matG_length a.length (crN a b)
  have s2 := hb2.size
  rw [size_alloc] at s2
  refine bodyPost_ret (v := .tuple #[.agg #[.slice p6 (matG a.length (crN a b)).length c6], .bool true]) (by simp [results, Tryd.results35, go_sem, mc]) rfl ⟨_, _, true, rfl, .inl ⟨rfl, Hok.out, rfl⟩, (hd6.setBox ⟨mc, mf, ml, mB⟩ _).base (by omega), by omega, fun j => Nat.le_trans (matG_row_le j) (by omega), ?_⟩
  exact ((hbA.out.trans (hb2.mono hbA.out.size)).trans (hb6.mono (by rw [size_alloc] at h0; omega))).setCell (by show w.heap.size ≤ w.heap.size; omega) _

/-- What CrossIn answers. -/
def CrIn (a b : List Int) (x y : Int) : Prop := LinesOk a b ∧ (0 ≤ x ∧ x < a.length) ∧ (0 ≤ y ∧ y < a.length) ∧ crE a b x y = true

set_option maxRecDepth 100000 in
set_option maxHeartbeats 2000000 in
theorem specCrossIn_any (av bv : Value) (a b : List Int) (x y : Int) (hal : a.length ≤ 1000000000) (w : World) (ha : Nums w 2 .i64 av a) (hb : Nums w 2 .i64 bv b) :
    Calls Tryd.prog 32 #[av, bv, .int .i64 x, .int .i64 y] w fun e w' => e = .returned (.bool (dec (CrIn a b x y))) ∧ Below w.heap.size w w' := by
  obtain ⟨ap, ac, rfl, _⟩ := id ha.shape
  obtain ⟨bp, bc, rfl, _⟩ := id hb.shape
  have HA := Lib.hid ha
  have HB := Lib.hid hb
  clear ha hb
  have hwr : IntKind.i64.wrap ((a.length : Int) - 1) = (a.length : Int) - 1 := by rw [IntKind.wrap_i64]; omega
  by_cases h1 : LinesOk a b
  case neg =>
    have hd := dec_false h1
    have H1 := Lib.hid h1
    clear h1
    go_enter Tryd.func32, Tryd.ntmps32
    go_wp2_with (go_at_call 54; refine (l15Lines_any _ _ a b _ HA.out HB.out).mono ?_; rintro e w2 ⟨he, hb2⟩; rw [hd] at he; subst he)
    go_ret
    exact ⟨ret_bool (false_dec fun h => H1.out h.1), hb2⟩
  have hd := dec_true h1
  have H1 := Lib.hid h1
  clear h1
  by_cases h2 : 0 ≤ x ∧ x ≤ (a.length : Int) - 1
  case neg =>
    have hd2 := dec_false h2
    have H2 := Lib.hid h2
    clear h2
    go_enter Tryd.func32, Tryd.ntmps32
    go_wp2_with (first
      | (go_at_call 54; refine (l15Lines_any _ _ a b _ HA.out HB.out).mono ?_; rintro e w2 ⟨he, hb2⟩; rw [hd] at he; subst he)
      | (go_at_call 55; refine (l1In_any _ _ _ _).mono ?_; rintro e w3 ⟨he, rfl⟩; rw [hd2] at he; subst he))
    go_ret
    exact ⟨ret_bool (false_dec fun h => H2.out (by have := h.2.1; omega)), hb2⟩
  have hd2 := dec_true h2
  have H2 := Lib.hid h2
  clear h2
  by_cases h3 : 0 ≤ y ∧ y ≤ (a.length : Int) - 1
  case neg =>
    have hd3 := dec_false h3
    have H3 := Lib.hid h3
    clear h3
    go_enter Tryd.func32, Tryd.ntmps32
    go_wp2_with (first
      | (go_at_call 54; refine (l15Lines_any _ _ a b _ HA.out HB.out).mono ?_; rintro e w2 ⟨he, hb2⟩; rw [hd] at he; subst he)
      | (go_at_call 55; refine (l1In_any _ _ _ _).mono ?_; rintro e w3 ⟨he, rfl⟩; first | (rw [hd2] at he; subst he) | (rw [hd3] at he; subst he)))
    go_ret
    exact ⟨ret_bool (false_dec fun h => H3.out (by have := h.2.2.1; omega)), hb2⟩
  have hd3 := dec_true h3
  have H3 := Lib.hid h3
  clear h3
  go_enter Tryd.func32, Tryd.ntmps32
  go_wp2_with (first
    | (go_at_call 54; refine (l15Lines_any _ _ a b _ HA.out HB.out).mono ?_; rintro e w2 ⟨he, hb2⟩; rw [hd] at he; subst he)
    | (go_at_call 56; refine (l15Cross_any _ _ a b x y _ (HA.out.below hb2) (HB.out.below hb2)).mono ?_; rintro e w4 ⟨rfl, rfl⟩)
    | (go_at_call 55; refine (l1In_any _ _ _ _).mono ?_; rintro e w3 ⟨he, rfl⟩; first | (rw [hd2] at he; subst he) | (rw [hd3] at he; subst he)))
  go_ret
  refine ⟨ret_bool ?_, hb2⟩
  cases hE : crE a b x y
  · exact false_dec fun h => by rw [h.2.2.2] at hE; cases hE
  · exact true_dec ⟨H1.out, by have := H2.out; omega, by have := H3.out; omega, hE⟩

set_option maxRecDepth 100000 in
set_option maxHeartbeats 1000000 in
theorem isVertex_any (v : Value) (g : List (List Int)) (x : Int) (w : World) (hg : Gr w v g) (hgl : g.length ≤ 1000000000) :
    Calls Tryd.prog 86 #[v, .int .i64 x] w fun e w' => e = .returned (.bool (dec (GOk g ∧ 0 ≤ x ∧ x < g.length))) ∧ Below w.heap.size w w' := by
  have hg0 := hg
  obtain ⟨u, rfl, hr⟩ := hg
  obtain ⟨p, c, rfl, _⟩ := hr.shape
  have hbA := Lib.hid (below_alloc w (.cells #[.slice p g.length c] 27))
  have BX := Lib.hid (Box.new w (.slice p g.length c) 27)
  have HG := Lib.hid (hg0.below hbA.out)
  have hwr : IntKind.i64.wrap ((g.length : Int) - 1) = (g.length : Int) - 1 := by rw [IntKind.wrap_i64]; omega
  clear hr hg0
  by_cases hok : GOk g
  case neg =>
    have hd := dec_false hok
    have Hok := Lib.hid hok
    clear hok
    go_enter Tryd.func86, Tryd.ntmps86
    go_wp2_with (go_at_call 68; refine (implGraphOk_any _ g _ HG.out).mono ?_; rintro e w2 ⟨he, hb2⟩; rw [hd] at he; subst he)
    go_ret
    exact ⟨ret_bool (false_dec fun h => Hok.out h.1), hbA.out.trans (hb2.mono hbA.out.size)⟩
  have hd := dec_true hok
  have Hok := Lib.hid hok
  clear hok
  go_enter Tryd.func86, Tryd.ntmps86
  go_wp2_with (first
    | (go_at_call 100; refine (inRange_any _ _ _ _).mono ?_; rintro e w3 ⟨rfl, rfl⟩)
    | (go_at_call 68; refine (implGraphOk_any _ g _ HG.out).mono ?_; rintro e w2 ⟨he, hb2⟩; rw [hd] at he; subst he; have hbx := (BX.out.keep hb2).cell))
  go_ret
  exact ⟨ret_bool (dec_congr ⟨fun h => ⟨Hok.out, by omega⟩, fun h => by have := h.2; omega⟩), hbA.out.trans (hb2.mono hbA.out.size)⟩

set_option maxRecDepth 100000 in
set_option maxHeartbeats 1000000 in
theorem edgeIn_any (v : Value) (g : List (List Int)) (x y : Int) (w : World) (hg : Gr w v g) (hgl : g.length ≤ 1000000000) :
    Calls Tryd.prog 57 #[v, .int .i64 x, .int .i64 y] w fun e w' => e = .returned (.bool (dec ((GOk g ∧ 0 ≤ x ∧ x < g.length) ∧ y ∈ row g x.toNat))) ∧ Below w.heap.size w w' := by
  have hg0 := hg
  obtain ⟨u, rfl, hr⟩ := hg
  obtain ⟨p, c, rfl, _⟩ := hr.shape
  have hbA := Lib.hid (below_alloc w (.cells #[.slice p g.length c] 27))
  have BX := Lib.hid (Box.new w (.slice p g.length c) 27)
  have HG := Lib.hid (hg0.below hbA.out)
  have HR := Lib.hid hr
  clear hr hg0
  by_cases hok : GOk g ∧ 0 ≤ x ∧ x < g.length
  case neg =>
    have hd := dec_false hok
    have Hok := Lib.hid hok
    clear hok
    go_enter Tryd.func57, Tryd.ntmps57
    go_wp2_with (go_at_call 86; refine (isVertex_any _ g x _ HG.out hgl).mono ?_; rintro e w2 ⟨he, hb2⟩; rw [hd] at he; subst he)
    go_ret
    exact ⟨ret_bool (false_dec fun h => Hok.out h.1), hbA.out.trans (hb2.mono hbA.out.size)⟩
  have hd := dec_true hok
  have hx0 := hok.2.1
  have hx1 := hok.2.2
  have Hok := Lib.hid hok
  clear hok
  obtain ⟨n, rfl⟩ : ∃ n : Nat, x = (n : Int) := ⟨x.toNat, (Int.toNat_of_nonneg hx0).symm⟩
  have hn : n < g.length := by omega
  obtain ⟨b, o, rp, rc, rfl, _, _⟩ := HR.out.get hn
  have HRow : Hid (∀ wz, Below w.heap.size w wz → ∃ rp rc, wz.cell? ⟨b, o + n, none⟩ = some (.slice rp (row g n).length rc) ∧ Nums wz 2 .i64 (.slice rp (row g n).length rc) (row g n)) := Lib.hid fun wz hbz => by
    obtain ⟨b', o', rp', rc', e1, h1, h2⟩ := (HR.out.below hbz).get hn
    cases e1
    exact ⟨rp', rc', h1, h2⟩
  clear hx0
  go_enter Tryd.func57, Tryd.ntmps57
  go_wp2_with (first
    | (go_at_call 87; refine (contains_any _ (row g n) y _ (hrn.below (below_dN (Below.refl _ _) 1))).mono ?_; rintro e w3 ⟨rfl, rfl⟩)
    | (go_at_call 87; refine (contains_any _ (row g n) y _ hrn).mono ?_; rintro e w3 ⟨rfl, rfl⟩)
    | (go_at_call 86; refine (isVertex_any _ g n _ HG.out hgl).mono ?_; rintro e w2 ⟨he, hb2⟩; rw [hd] at he; subst he; have hbx := (BX.out.keep hb2).cell; have hbw := hbA.out.trans (hb2.mono hbA.out.size); obtain ⟨rp2, rc2, hrc, hrn⟩ := HRow.out _ hbw))
  go_ret
  exact ⟨ret_bool (dec_congr ⟨fun h => ⟨Hok.out, by simpa using h⟩, fun h => by simpa using h.2⟩), hbw⟩

set_option maxRecDepth 100000 in
set_option maxHeartbeats 2000000 in
theorem implCrossIn_any (av bv : Value) (a b : List Int) (x y : Int) (w : World) (ha : Nums w 2 .i64 av a) (hb : Nums w 2 .i64 bv b) (hT : Tab w) :
    Calls Tryd.prog 33 #[av, bv, .int .i64 x, .int .i64 y] w fun e w' => e = .returned (.bool (dec (CrIn a b x y))) ∧ Below w.heap.size w w' := by
  obtain ⟨ap, ac, rfl, _⟩ := id ha.shape
  obtain ⟨bp, bc, rfl, _⟩ := id hb.shape
  have HA := Lib.hid ha
  have HB := Lib.hid hb
  have HT := Lib.hid hT
  clear ha hb hT
  by_cases hok : LinesOk a b
  case neg =>
    have Hok := Lib.hid hok
    clear hok
    go_enter Tryd.func33, Tryd.ntmps33
    go_wp2_with (go_at_call 35; refine (implPermGraph_any _ _ a b _ HA.out HB.out HT.out).mono ?_; rintro e w2 ⟨u2, gg, ok, rfl, hS, hd2, _, _, hb2⟩; obtain ⟨p2, c2, rfl⟩ := hd2.shape; obtain ⟨rfl, rfl⟩ := permS_no hS Hok.out)
    go_ret
    exact ⟨ret_bool (false_dec fun h => Hok.out h.1), hb2.alloc hb2.size _⟩
  have h16 := hok.1.2.1
  have Hok := Lib.hid hok
  have HML := Lib.hid (matG_length a.length (crN a b))
  clear hok
  go_enter Tryd.func33, Tryd.ntmps33
  go_wp2_with (first
    | (go_at_call 57; refine (edgeIn_any _ (matG a.length (crN a b)) x y _ HG2.out (by omega)).mono ?_; rintro e w3 ⟨rfl, hb3⟩)
    | (go_at_call 35; refine (implPermGraph_any _ _ a b _ HA.out HB.out HT.out).mono ?_; rintro e w2 ⟨u2, gg, ok, rfl, hS, hd2, hgl, hgr, hb2⟩; have hgl16 := Lib.hid hgl; obtain ⟨p2, c2, rfl⟩ := hd2.shape; obtain ⟨rfl, rfl⟩ := permS_yes hS Hok.out; have HG2 := Lib.hid ((hd2.gr (by omega) (fun j _ => by have := hgr j; omega)).below (below_alloc w2 (.cells #[.slice p2 (matG a.length (crN a b)).length c2] 27))); have HB2 := Lib.hid (hb2.alloc hb2.size (.cells #[.slice p2 (matG a.length (crN a b)).length c2] 27)); clear hgr hd2 hb2))
  go_ret
  refine ⟨ret_bool (dec_congr ?_), HB2.out.trans (hb3.mono HB2.out.size)⟩
  have hml := HML.out
  rw [hml]
  constructor
  · rintro ⟨⟨_, h0, h1⟩, hy⟩
    obtain ⟨n, rfl⟩ : ∃ n : Nat, x = (n : Int) := ⟨x.toNat, (Int.toNat_of_nonneg h0).symm⟩
    rw [Int.toNat_natCast, mem_matG (by omega)] at hy
    obtain ⟨j, rfl, hj, hE⟩ := hy
    exact ⟨Hok.out, ⟨h0, h1⟩, by omega, hE⟩
  · rintro ⟨_, ⟨h0, h1⟩, ⟨h2, h3⟩, hE⟩
    obtain ⟨n, rfl⟩ : ∃ n : Nat, x = (n : Int) := ⟨x.toNat, (Int.toNat_of_nonneg h0).symm⟩
    obtain ⟨j, rfl⟩ : ∃ n : Nat, y = (n : Int) := ⟨y.toNat, (Int.toNat_of_nonneg h2).symm⟩
    rw [Int.toNat_natCast, mem_matG (by omega)]
    exact ⟨⟨permG_ok Hok.out, h0, h1⟩, j, rfl, by omega, hE⟩

end Go.Proofs.YtbdcolhmhbfdoaaDoor
