/- Plain: the widths of what is cut and contracted, as graphs. -/
import Derived.Test.YtiooindlpinjhaaDoorWlQ38
import Derived.Test.YtiooindlpinjhaaDoorWlQ17
import Derived.Test.YtiooindlpinjhaaDoorWlQ22
import Derived.Test.YtiooindlpinjhaaDoorWlQ4
import Derived.Test.YtiooindlpinjhaaDoorWlQ8
import Derived.Deep.RegionHeld3
import Derived.Deep.DeepCutAuto
import Derived.Deep.RegionLaw
import Derived.Test.YtiooindlpinjhaaDoorWlQ37
import Derived.Test.YtiooindlpinjhaaDoorWlQ13
import Derived.Test.YtiooindlpinjhaaDoorWlQ25
import Derived.Test.YtiooindlpinjhaaDoorWlQ35
import Derived.Test.YtiooindlpinjhaaDoorWlQ11
import Derived.Test.YtiooindlpinjhaaDoorWlQ29
namespace Go.Proofs.YtiooindlpinjhaaDoor

theorem atO_range {n k : Nat} (h : k < n) : atO (List.range n) k = k := by rw [atO_eq (by rw [List.length_range]; exact h), List.getElem_range]
theorem ofG_in {g : List (List Int)} (hok : GOk g) {i k : Nat} (h : ofG g i k = true) : i < g.length ∧ k < g.length := by
  have key : ∀ x y, ofG g x y = true → x < g.length := fun x y e => by
    refine Classical.byContradiction fun hn => ?_
    unfold ofG at e
    rw [row_out hn] at e
    simp at e
  exact ⟨key i k h, key k i (ofG_sym hok _ _ h)⟩
theorem cutE_iff {E : Nat → Nat → Bool} {a b p q : Nat} : cutE E a b p q = true ↔ E p q = true ∧ ¬ (p = a ∧ q = b) ∧ ¬ (p = b ∧ q = a) := by
  unfold cutE
  simp only [Bool.and_eq_true, Bool.not_eq_true', Bool.or_eq_false_iff, decide_eq_false_iff_not]
  simp
theorem restN_len {n b : Nat} (hb : b < n) : (restN n b).length = n - 1 := by
  have h1 : (List.range n).Perm (b :: restN n b) := by
    refine (List.perm_ext_iff_of_nodup List.nodup_range (List.nodup_cons.2 ⟨fun h => (mem_restN.1 h).2 rfl, (restN_rising _ _).imp fun h => Nat.ne_of_lt h⟩)).2 fun x => ?_
    rw [List.mem_cons, mem_restN, List.mem_range]
    by_cases e : x = b
    · subst e; simp [hb]
    · simp [e]
  have := h1.length_eq
  rw [List.length_range, List.length_cons] at this
  omega
section
variable {g : List (List Int)} (hok : GOk g)
include hok
theorem wl_ind {u : Nat} (hu : u < g.length) (h2 : 2 ≤ g.length) : GOk (indL g (natInts (restN g.length u))) ∧ (indL g (natInts (restN g.length u))).length = g.length - 1 := by
  have hl := restN_len hu
  refine ⟨indL_gok hok (fun v hv => (mem_restN.1 hv).1) (by omega) (by have := hok.le; omega), ?_⟩
  unfold indL
  rw [matG_length, natInts_length, hl]
theorem wl_indE {u i k : Nat} (hu : u < g.length) (h2 : 2 ≤ g.length) : ofG (indL g (natInts (restN g.length u))) i k = true ↔ i < (restN g.length u).length ∧ k < (restN g.length u).length ∧ ofG g (atO (restN g.length u) i) (atO (restN g.length u) k) = true := by
  obtain ⟨h1, hl⟩ := wl_ind hok hu h2
  have hlr := restN_len hu
  constructor
  · intro h
    obtain ⟨hi, hk⟩ := ofG_in h1 h
    rw [hl, ← hlr] at hi hk
    rw [ofG_ind hi hk] at h
    exact ⟨hi, hk, by rw [atO_eq hi, atO_eq hk]; exact h⟩
  · rintro ⟨hi, hk, h⟩
    rw [ofG_ind hi hk]
    rwa [atO_eq hi, atO_eq hk] at h
/-- A vertex is cut. -/
theorem wl_vertex {u : Nat} (hu : u < g.length) (h2 : 2 ≤ g.length) : twS (indL g (natInts (restN g.length u))).length (ofG (indL g (natInts (restN g.length u)))) 0 ≤ twS g.length (ofG g) 0 ∧ twS g.length (ofG g) 0 ≤ twS (indL g (natInts (restN g.length u))).length (ofG (indL g (natInts (restN g.length u)))) 0 + 1 := by
  obtain ⟨h1, hl⟩ := wl_ind hok hu h2
  have hlr := restN_len hu
  rw [hl, ← hlr]
  have hnd : (restN g.length u).Nodup := (restN_rising _ _).imp fun h => Nat.ne_of_lt h
  constructor
  · exact tw_part hnd (fun x hx => (mem_restN.1 hx).1) fun i k h => (wl_indE hok hu h2).1 h
  · refine tw_more (u := u) hnd (fun x => ?_) (fun h => (mem_restN.1 h).2 rfl) (fun x y h => (ofG_in hok h).2) fun i k hi hk h => (wl_indE hok hu h2).2 ⟨hi, hk, h⟩
    rw [mem_restN]
    constructor
    · intro h
      by_cases e : x = u
      · exact .inr e
      · exact .inl ⟨h, e⟩
    · rintro (h | rfl)
      · exact h.1
      · exact hu
theorem wl_cut_gok {a b : Nat} : GOk (matG g.length (cutE (ofG g) a b)) :=
  gok_matG hok.pos hok.le (fun p q h => by
    rw [cutE_iff] at h ⊢
    exact ⟨ofG_sym hok _ _ h.1, fun e => h.2.2 ⟨e.2, e.1⟩, fun e => h.2.1 ⟨e.2, e.1⟩⟩) (fun p => by
    cases h : cutE (ofG g) a b p p
    · rfl
    · rw [cutE_iff, ofG_irr hok] at h; cases h.1)
theorem wl_cutE {a b p q : Nat} : ofG (matG g.length (cutE (ofG g) a b)) p q = true ↔ p < g.length ∧ q < g.length ∧ cutE (ofG g) a b p q = true := by
  constructor
  · intro h
    obtain ⟨hp, hq⟩ := ofG_in (wl_cut_gok hok) h
    rw [matG_length] at hp hq
    rw [ofG_matG hp hq] at h
    exact ⟨hp, hq, h⟩
  · rintro ⟨hp, hq, h⟩
    rw [ofG_matG hp hq]
    exact h
/-- An edge is cut. -/
theorem wl_edge {a b : Nat} (ha : a < g.length) (h2 : 2 ≤ g.length) : twS (matG g.length (cutE (ofG g) a b)).length (ofG (matG g.length (cutE (ofG g) a b))) 0 ≤ twS g.length (ofG g) 0 ∧ twS g.length (ofG g) 0 ≤ twS (matG g.length (cutE (ofG g) a b)).length (ofG (matG g.length (cutE (ofG g) a b))) 0 + 1 := by
  rw [matG_length]
  constructor
  · have := tw_part (n := g.length) (E := ofG g) (F := ofG (matG g.length (cutE (ofG g) a b))) (o := List.range g.length) List.nodup_range (fun x hx => List.mem_range.1 hx) fun i k h => by
      obtain ⟨hi, hk, h⟩ := (wl_cutE hok).1 h
      rw [List.length_range, atO_range hi, atO_range hk]
      exact ⟨hi, hk, (cutE_iff.1 h).1⟩
    rwa [List.length_range] at this
  · have h3 := (wl_vertex hok ha h2).2
    obtain ⟨h1, hl⟩ := wl_ind hok ha h2
    have hlr := restN_len ha
    rw [hl, ← hlr] at h3
    have hnd : (restN g.length a).Nodup := (restN_rising _ _).imp fun h => Nat.ne_of_lt h
    have h4 := tw_part (n := g.length) (E := ofG (matG g.length (cutE (ofG g) a b))) (F := ofG (indL g (natInts (restN g.length a)))) (o := restN g.length a) hnd (fun x hx => (mem_restN.1 hx).1) fun i k h => by
      obtain ⟨hi, hk, h⟩ := (wl_indE hok ha h2).1 h
      obtain ⟨i1, i2⟩ := mem_restN.1 (atO_mem hi)
      obtain ⟨k1, k2⟩ := mem_restN.1 (atO_mem hk)
      exact ⟨hi, hk, (wl_cutE hok).2 ⟨i1, k1, cutE_iff.2 ⟨h, fun e => i2 e.1, fun e => k2 e.2⟩⟩⟩
    omega
theorem wl_con_gok {a b : Nat} (hb : b < g.length) (h2 : 2 ≤ g.length) : GOk (matG g.length (conE (ofG g) a b)) ∧ GOk (indL (matG g.length (conE (ofG g) a b)) (natInts (restN g.length b))) ∧ (indL (matG g.length (conE (ofG g) a b)) (natInts (restN g.length b))).length = g.length - 1 := by
  have hc : GOk (matG g.length (conE (ofG g) a b)) := gok_matG hok.pos hok.le (conE_sym (ofG_sym hok) a b) (conE_irr (ofG_irr hok) a b)
  have h := wl_ind hc (u := b) (by rw [matG_length]; exact hb) (by rw [matG_length]; exact h2)
  rw [matG_length] at h
  exact ⟨hc, h.1, h.2⟩
/-- An edge is contracted. -/
theorem wl_con {a b : Nat} (ha : a < g.length) (hb : b < g.length) (hab : a ≠ b) (hE : ofG g a b = true) (h2 : 2 ≤ g.length) : twS (indL (matG g.length (conE (ofG g) a b)) (natInts (restN g.length b))).length (ofG (indL (matG g.length (conE (ofG g) a b)) (natInts (restN g.length b)))) 0 ≤ twS g.length (ofG g) 0 := by
  obtain ⟨hc, h1, hl⟩ := wl_con_gok hok (a := a) hb h2
  have hlr := restN_len hb
  rw [hl, ← hlr]
  have hnd : (restN g.length b).Nodup := (restN_rising _ _).imp fun h => Nat.ne_of_lt h
  have hI := fun i k => wl_indE hc (u := b) (i := i) (k := k) (by rw [matG_length]; exact hb) (by rw [matG_length]; exact h2)
  rw [matG_length] at hI
  refine tw_con (ofG_sym hok) hnd (fun x => mem_restN) ha hb hab hE fun i k h => ?_
  obtain ⟨hi, hk, h3⟩ := (hI i k).1 h
  have hik : i ≠ k := fun e => by
    subst e
    rw [ofG_irr h1] at h
    cases h
  refine ⟨hi, hk, hik, ?_⟩
  rwa [ofG_matG (mem_restN.1 (atO_mem hi)).1 (mem_restN.1 (atO_mem hk)).1] at h3
/-- Who is behind a vertex where none is gone: its neighbours. -/
theorem beh_zero {a : Nat} (ha : a < g.length) : (behS g.length (ofG g) 0 a).length = (row g a).length := by
  obtain ⟨h1, h2, h3⟩ := setIn_nats (hok.sets a ha).1
  obtain ⟨R, hR⟩ : ∃ R, R = (row g a).map Int.toNat := ⟨_, rfl⟩
  rw [← hR] at h1 h2 h3
  have hp : (behS g.length (ofG g) 0 a).Perm R := by
    refine (List.perm_ext_iff_of_nodup (behS_nodup _ _ _ _) (h2.imp fun h => Nat.ne_of_lt h)).2 fun x => ?_
    rw [mem_behS]
    have hx : x ∈ R ↔ ofG g a x = true := by
      unfold ofG
      rw [decide_eq_true_eq, ← h1, mem_natInts]
      constructor
      · exact fun h => ⟨x, h, rfl⟩
      · rintro ⟨i, hi, e⟩
        have : i = x := by omega
        exact this ▸ hi
    rw [hx]
    constructor
    · rintro ⟨_, _, _, y, h4, h5⟩
      have : y = a := by
        induction h4 with
        | base => rfl
        | step _ _ h6 _ => unfold inS at h6; rw [Nat.zero_testBit] at h6; cases h6
      rw [this] at h5
      exact h5
    · intro h
      refine ⟨(ofG_in hok h).2, Nat.zero_testBit _, fun e => ?_, a, .base, h⟩
      rw [e, ofG_irr hok] at h
      cases h
  rw [hp.length_eq, hR, List.length_map]
/-- Either it has as many neighbours, or the rest has the width. -/
theorem wl_first {a : Nat} (ha : a < g.length) : twS g.length (ofG g) 0 ≤ (row g a).length ∨ twS g.length (ofG g) 0 ≤ twS g.length (ofG g) (2 ^ a) := by
  have h := tw_le_val (E := ofG g) (mem_freeS.2 ⟨ha, Nat.zero_testBit a⟩ : a ∈ freeS g.length 0)
  have hv : valS g.length (ofG g) 0 a = max (behS g.length (ofG g) 0 a).length (twS g.length (ofG g) (0 ||| 2 ^ a)) := rfl
  rw [beh_zero hok ha, Nat.zero_or] at hv
  omega
end

end Go.Proofs.YtiooindlpinjhaaDoor

/- Walks: an order of the vertices, of the reference. -/
namespace Go.Proofs.YtiooindlpinjhaaDoor
open Go.RowKit

set_option maxRecDepth 100000 in
theorem l1There_any (v : Value) (g : List (List Int)) (x : Int) (w : World) (hg : Gr w v g) (hn : g.length ≤ 1000000000) :
    Calls Tryd.prog 98 #[v, .int .i64 x] w fun e w' => e = .returned (.bool (dec (0 ≤ x ∧ x < g.length))) ∧ Below w.heap.size w w' := by
  have hg0 := hg
  obtain ⟨u, rfl, hr⟩ := hg
  obtain ⟨p, c, rfl, _⟩ := hr.shape
  have hbA := Lib.hid (below_alloc w (.cells #[.slice p g.length c] 28))
  have HG := Lib.hid (hg0.below hbA.out)
  clear hr hg0
  go_enter Tryd.func98, Tryd.ntmps98
  go_wp2_with (first
    | (go_at_call 116; refine (l1In_any _ _ _ _).mono ?_; rintro e w3 ⟨rfl, rfl⟩)
    | (go_at_call 75; refine (l1Size_any _ g _ HG.out).mono ?_; rintro e w2 ⟨rfl, hb2⟩))
  go_ret
  exact ⟨ret_bool (dec_congr (by omega)), hbA.out.trans (hb2.mono hbA.out.size)⟩

end Go.Proofs.YtiooindlpinjhaaDoor

/- Walks: the reference's pair of vertices, and the cut of an edge. -/
namespace Go.Proofs.YtiooindlpinjhaaDoor
open Go.RowKit

theorem L2I.row_to {W0 wr w2 : World} {b5 ob c m : Nat} {g : List (List Int)} (hm : m = g.length) (h : L2I W0 wr b5 (some ⟨ob, 0, none⟩) c m g) (hb : Below wr.heap.size wr w2) {rv : Value} {s : List Int} (hn : Nums w2 2 .i64 rv s) {u : Nat} (hu : u < g.length) :
    L2I W0 (w2.setCell ⟨ob, u, none⟩ rv) b5 (some ⟨ob, 0, none⟩) c m (g.set u s) := by
  subst hm
  have hob := h.own ob rfl
  refine ⟨?_, (h.bel.trans (hb.mono h.bel.size)).setCell hob.1 _, (h.box.keep hb).setOther (by show b5 ≠ ob; omega) _, h.own, h.b5⟩
  obtain ⟨_, vals, h1, hl, ho, hr⟩ := h.sg
  cases h1
  have ho' := ownsRow_below ho hb
  obtain ⟨ho2, hg2⟩ := ho'.stored u rv
  refine ⟨_, vals.set u rv, rfl, by simp [hl], by rw [List.length_set]; exact ho2, fun j hj => ?_⟩
  rw [List.length_set] at hj
  rw [row_set _ _ _ _ hu]
  by_cases e : j = u
  · subst e
    rw [if_pos rfl]
    have : (vals.set j rv).getD j undef = rv := by simp [hl, hj]
    rw [this]
    exact hn.other ho' hg2 (by decide)
  · rw [if_neg e]
    have : (vals.set u rv).getD j undef = vals.getD j undef := by simp [show ¬ u = j from fun q => e q.symm]
    rw [this]
    exact ((hr j hj).below hb).other ho' hg2 (by decide)
theorem L2I.rowAt {W0 wr : World} {b5 ob c m : Nat} {g : List (List Int)} (hm : m = g.length) (h : L2I W0 wr b5 (some ⟨ob, 0, none⟩) c m g) {u : Nat} (hu : u < g.length) :
    ∃ (rp : Option Addr) (rc : Nat), wr.cell? ⟨ob, u, none⟩ = some (.slice rp (row g u).length rc) ∧ Nums wr 2 .i64 (.slice rp (row g u).length rc) (row g u) := by
  subst hm
  obtain ⟨_, vals, h1, hl, ho, hr⟩ := h.sg
  cases h1
  obtain ⟨rp, rc, hrs, _⟩ := (hr u hu).shape
  have hcu := ho.cellAt u (by omega)
  rw [get_getD vals u undef (by rw [hl]; exact hu), hrs] at hcu
  have hn := hr u hu
  rw [hrs] at hn
  exact ⟨rp, rc, hcu, hn⟩
theorem L2I.thaw {W0 wr : World} {b5 ob c m : Nat} {g : List (List Int)} (hm : m = g.length) (h : L2I W0 wr b5 (some ⟨ob, 0, none⟩) c m g) (u : Nat) : wr.frozen? ⟨ob, u, none⟩ = false := by
  subst hm
  obtain ⟨_, vals, h1, hl, ho, hr⟩ := h.sg
  cases h1
  exact ho.frozenAt u
theorem cut_matG {n a b : Nat} {E : Nat → Nat → Bool} (hab : a ≠ b) (ha : a < n) (hb : b < n) :
    ((matG n E).set a (natInts (((List.range n).filter (E a)).filter fun x => x != b))).set b (natInts (((List.range n).filter (E b)).filter fun x => x != a)) = matG n (cutE E a b) := by
  refine graph_ext (by simp [matG_length]) fun r hr => ?_
  simp only [List.length_set, matG_length] at hr
  rw [row_set _ _ _ _ (by simp [matG_length]; exact hb), row_set _ _ _ _ (by rw [matG_length]; exact ha), row_matG hr, row_matG hr]
  have key : ∀ p q, r = p → p ≠ q → ((List.range n).filter (E p)).filter (fun x => x != q) = (List.range n).filter (fun j => E r j && !((r == p && j == q) || (r == q && j == p))) := by
    intro p q e hpq
    subst e
    rw [List.filter_filter]
    refine List.filter_congr fun j _ => ?_
    have : (r == q) = false := beq_eq_false_iff_ne.2 hpq
    simp only [beq_self_eq_true, Bool.true_and, this, Bool.false_and, Bool.or_false, bne, Bool.and_comm]
  by_cases e1 : r = b
  · rw [if_pos e1, key b a e1 (Ne.symm hab)]
    congr 1
    refine List.filter_congr fun j _ => ?_
    unfold cutE
    rw [Bool.or_comm]
  · rw [if_neg e1]
    by_cases e2 : r = a
    · rw [if_pos e2, key a b e2 hab]
      rfl
    · rw [if_neg e2]
      congr 1
      refine List.filter_congr fun j _ => ?_
      unfold cutE
      have h1 : (r == a) = false := beq_eq_false_iff_ne.2 e2
      have h2 : (r == b) = false := beq_eq_false_iff_ne.2 e1
      simp [h1, h2]

set_option maxRecDepth 100000 in
set_option maxHeartbeats 2000000 in
theorem l2Pair_yes (v : Value) (g : List (List Int)) (y z : Int) (a b : Nat) (hy : y = a) (hz : z = b) (hok : GOk g) (ha : a < g.length) (hb : b < g.length) (hab : a ≠ b) (w : World) (hg : Gr w v g) :
    Calls Tryd.prog 101 #[v, .int .i64 y, .int .i64 z] w fun e w' => e = .returned (.bool true) ∧ Below w.heap.size w w' := by
  subst hy; subst hz
  have hg0 := hg
  obtain ⟨u, rfl, hr⟩ := hg
  obtain ⟨p, c, rfl, _⟩ := hr.shape
  have hbA := Lib.hid (below_alloc w (.cells #[.slice p g.length c] 28))
  have HG := Lib.hid (hg0.below hbA.out)
  have BX := Lib.hid (Box.new w (.slice p g.length c) 28)
  have h16 := hok.le
  have HD := Lib.hid (dec_true hok)
  have HDA := Lib.hid (dec_true (show (0 : Int) ≤ (a : Int) ∧ (a : Int) < g.length from ⟨by omega, by omega⟩))
  have HDB := Lib.hid (dec_true (show (0 : Int) ≤ (b : Int) ∧ (b : Int) < g.length from ⟨by omega, by omega⟩))
  have hne : ((a : Int) != (b : Int)) = true := bne_iff_ne.2 (by omega)
  clear hr hg0 hok
  go_enter Tryd.func101, Tryd.ntmps101
  go_wp2_with (first
    | (go_at_call 45; refine (specGraphOk_any _ g _ HG.out).mono ?_; rintro e w2 ⟨he, hb2⟩; rw [HD.out] at he; subst he; have c2 := (BX.out.keep hb2).cell)
    | (go_at_call 98; have hb3_ := hb3; refine (l1There_any _ g (b : Int) _ ((HG.out.below hb2).below hb3_) (by omega)).mono ?_; rintro e w4 ⟨he, hb4⟩; rw [HDB.out] at he; subst he; have c4 := hb4.at' c3)
    | (go_at_call 98; refine (l1There_any _ g (a : Int) _ (HG.out.below hb2) (by omega)).mono ?_; rintro e w3 ⟨he, hb3⟩; rw [HDA.out] at he; subst he; have c3 := hb3.at' c2))
  go_ret
  refine ⟨by first | rfl | simp [hne], ((hbA.out.trans (hb2.mono hbA.out.size)).trans (hb3.mono (Nat.le_trans hbA.out.size hb2.size))).trans (hb4.mono (Nat.le_trans (Nat.le_trans hbA.out.size hb2.size) hb3.size))⟩

set_option maxRecDepth 100000 in
set_option maxHeartbeats 4000000 in
theorem specCutEdge_yes (v : Value) (g : List (List Int)) (y z : Int) (a b : Nat) (hy : y = a) (hz : z = b) (hok : GOk g) (ha : a < g.length) (hb : b < g.length) (hE : ofG g a b = true) (w : World) (hg : Gr w v g) :
    Calls Tryd.prog 37 #[v, .int .i64 y, .int .i64 z] w fun e w' => ∃ u, e = .returned (.tuple #[u, .bool true]) ∧ SG w' w.heap.size u (matG g.length (cutE (ofG g) a b)) ∧ Below w.heap.size w w' := by
  subst hy; subst hz
  have hg0 := hg
  obtain ⟨u, rfl, hr⟩ := hg
  obtain ⟨gp, gc, rfl, _⟩ := hr.shape
  obtain ⟨W0, hW0, hbA, SZ0, B0, B1⟩ := two_boxesM w (.slice gp g.length gc) (.slice none 0 0) 28 28
  have HBA := Lib.hid hbA
  have HG := Lib.hid (hg0.below hbA)
  have HX0 := Lib.hid B0
  have HX1 := Lib.hid B1
  have HSZ := Lib.hid SZ0
  have h16 := hok.le
  have hab : a ≠ b := fun e => by rw [e, ofG_irr hok] at hE; cases hE
  have HDE := Lib.hid (dec_true (show (b : Int) ∈ row g a by simpa [ofG] using hE))
  have HOK := Lib.hid hok
  have HMG := Lib.hid (matG_ofG hok)
  clear hr hg0 hbA B0 B1 SZ0 hE
  go_enter Tryd.func37, Tryd.ntmps37
  go_upto_region 1 with fail
  rw [← hW0]
  clear hW0
  have c0 := HX0.out.cell
  go_upto_region 3 with (first
    | (go_at_call 101; refine (l2Pair_yes _ g _ _ a b rfl rfl HOK.out ha hb hab _ HG.out).mono ?_; rintro e w2 ⟨rfl, hb2⟩; have c2 := hb2.at' c0)
    | (go_at_call 99; refine (l1Edge_any _ g _ _ a b rfl rfl ha _ (HG.out.below hb2)).mono ?_; rintro e w3 ⟨he, hb3⟩; rw [HDE.out] at he; subst he; have c3 := hb3.at' c2))
  have HB2 := Lib.hid (hb2.trans (hb3.mono hb2.size))
  have HG2 := Lib.hid ((HG.out.below hb2).below hb3)
  clear hb2 hb3 c0
  go_upto_region 4 with (go_at_call 102; refine (l1CopyGraph_any _ g (by omega) (fun j => by have := gok_rowsMn HOK.out j; omega) _ HG2.out).mono ?_; rintro e w4 ⟨u4, rfl, hs4, hb4⟩; obtain ⟨p, c, rfl⟩ := hs4.shape)
  obtain ⟨ob, rfl⟩ : ∃ ob, p = some ⟨ob, 0, none⟩ := by
    obtain ⟨_, vals, h1, _, ho, _⟩ := hs4
    cases h1
    rcases ho.2 with ⟨_, h0⟩ | ⟨b, cc, _, h1, _⟩
    · omega
    · simp only [Value.slice.injEq] at h1
      exact ⟨b, h1.1⟩
  have START : Hid (L2I w3 (w4.alloc (.cells #[.slice (some ⟨ob, 0, none⟩) g.length c] 28)) w4.heap.size (some ⟨ob, 0, none⟩) c g.length (matG g.length (ofG g))) := Lib.hid
    ⟨by rw [HMG.out]; exact hs4.below (below_alloc _ _), hb4.alloc hb4.size _, Box.new _ _ _, hs4.lt, hb4.size⟩
  clear hs4 hb4 c2 c3
  generalize w4.alloc (.cells #[.slice (some ⟨ob, 0, none⟩) g.length c] 28) = W4 at *
  obtain ⟨b5, hb5⟩ : ∃ b5, b5 = w4.heap.size := ⟨_, rfl⟩
  rw [← hb5] at START ⊢
  clear hb5
  have ham : a < (matG g.length (ofG g)).length := by rw [matG_length]; exact ha
  have hbm : ∀ s, b < ((matG g.length (ofG g)).set a s).length := fun s => by simp [matG_length]; exact hb
  have bc := START.out.box.cell
  have bf := START.out.box.free
  obtain ⟨rp, rc, hcu, hnu⟩ := START.out.rowAt (matG_length _ _).symm ham
  rw [row_matG ha, natInts_length] at hcu hnu
  have HNU := Lib.hid hnu
  have hl1 : ((List.range g.length).filter (ofG g a)).length ≤ 1000 := Nat.le_trans (List.length_filter_le _ _) (by rw [List.length_range]; omega)
  have hl2 : ((List.range g.length).filter (ofG g b)).length ≤ 1000 := Nat.le_trans (List.length_filter_le _ _) (by rw [List.length_range]; omega)
  obtain ⟨lx, hlx⟩ : ∃ lx, lx = (((List.range g.length).filter (ofG g a)).filter fun x => x != b).length := ⟨_, rfl⟩
  obtain ⟨ly, hly⟩ : ∃ ly, ly = (((List.range g.length).filter (ofG g b)).filter fun x => x != a).length := ⟨_, rfl⟩
  have HLX := Lib.hid hlx
  have HLY := Lib.hid hly
  have HF : ∀ (L : List Nat) (q : Nat), L.length ≤ 1000 → (L.filter fun x => x != q).length ≤ 1000000000 := fun L q h => by
    exact Nat.le_trans (List.length_filter_le _ _) (by omega)
  clear hnu hlx hly
  go_cut [] (fun wx => L2I w3 wx b5 (some ⟨ob, 0, none⟩) c g.length ((matG g.length (ofG g)).set a (natInts (((List.range g.length).filter (ofG g a)).filter fun x => x != b))))
  case first =>
    go_region_law (first | (go_simp; go_at_call 103; refine (l2Without_any _ ((List.range g.length).filter (ofG g a)) _ b rfl hl1 _ (HNU.out.below (below_dN (Below.refl _ _) 1))).mono ?_; rintro e w6 ⟨rv, rfl, ho6, hb6⟩; have hn6 := Nums.of_owns ho6 (natInts_length _).symm (HF _ b hl1); obtain ⟨rvp, rvc, rfl, _⟩ := id hn6.shape; rw [natInts_length, ← HLX.out] at hn6 ⊢; have hb6' : Below W4.heap.size W4 w6 := (below_dN (Below.refl _ _) 1).trans hb6; have hf6 := (START.out.next hb6').thaw (matG_length _ _).symm a; have hc6 := hb6'.at' hcu; have hbc6 := hb6'.at' bc))
    all_goals go_wp2
    all_goals go_meet
    all_goals exact START.out.row_to (matG_length _ _).symm hb6' hn6 ham
  case rest =>
    have HL := Lib.hid hcut
    have hm1 : g.length = ((matG g.length (ofG g)).set a (natInts (((List.range g.length).filter (ofG g a)).filter fun x => x != b))).length := by simp [matG_length]
    have HM1 := Lib.hid hm1
    have bc := hcut.box.cell
    have bf := hcut.box.free
    obtain ⟨rp, rc, hcu, hnu⟩ := hcut.rowAt hm1 (hbm _)
    clear hm1
    rw [row_set _ _ _ _ ham, if_neg (Ne.symm hab), row_matG hb, natInts_length] at hcu hnu
    have HNU := Lib.hid hnu
    clear hcut hnu
    go_upto_region 5 with fail
    go_cut [] (fun wx => L2I w3 wx b5 (some ⟨ob, 0, none⟩) c g.length (matG g.length (cutE (ofG g) a b)))
    case first =>
      go_region_law (first | (go_simp; go_at_call 103; refine (l2Without_any _ ((List.range g.length).filter (ofG g b)) _ a rfl hl2 _ (HNU.out.below (below_dN (Below.refl _ _) 1))).mono ?_; rintro e w6 ⟨rv, rfl, ho6, hb6⟩; have hn6 := Nums.of_owns ho6 (natInts_length _).symm (HF _ a hl2); obtain ⟨rvp, rvc, rfl, _⟩ := id hn6.shape; rw [natInts_length, ← HLY.out] at hn6 ⊢; have hb6' : Below wc.heap.size wc w6 := (below_dN (Below.refl _ _) 1).trans hb6; have hf6 := (HL.out.next hb6').thaw HM1.out b; have hc6 := hb6'.at' hcu; have hbc6 := hb6'.at' bc))
      all_goals go_wp2
      all_goals go_meet
      all_goals exact (cut_matG (E := ofG g) hab ha hb) ▸ HL.out.row_to HM1.out hb6' hn6 (hbm _)
    case rest =>
      have HL2 := Lib.hid hcut
      have bc := hcut.box.cell
      have HX9 := HX1.out.keep (HB2.out.trans (hcut.bel.mono HB2.out.size))
      obtain ⟨k2c, k2f, _⟩ := id HX9
      clear hcut
      go_wp2
      have e0 := HBA.out.size
      have e1 := HB2.out.size
      refine bodyPost_ret (v := .tuple #[.agg #[.slice (some ⟨ob, 0, none⟩) g.length c], .bool true]) (by simp [results, Tryd.results37, go_sem, k2c]) rfl ⟨_, rfl, (HL2.out.sg.setBox HX9 _).base (by omega), ?_⟩
      exact ((HBA.out.trans (HB2.out.mono e0)).trans (HL2.out.bel.mono (by omega))).setCell (by show w.heap.size ≤ w.heap.size + 1; omega) _

end Go.Proofs.YtiooindlpinjhaaDoor
