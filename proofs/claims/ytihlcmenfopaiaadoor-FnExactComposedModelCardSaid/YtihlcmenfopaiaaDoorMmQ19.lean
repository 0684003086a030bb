/- Plain: models of a pattern in a graph; a model of a model. -/
import Derived.Test.YtihlcmenfopaiaaDoorMmQ18
import Derived.Test.YtihlcmenfopaiaaDoorMmQ16
import Derived.Deep.RegionLaw
namespace Go.Proofs.YtihlcmenfopaiaaDoor

/-- The first sets are sets of vertices, no two of which meet. -/
def MdTo (g M : List (List Int)) (k : Nat) : Prop := ∀ a, a < k → SetIn g.length (row M a) ∧ ∀ b, b < a → ∀ x ∈ row M a, x ∉ row M b
def MdW (g M : List (List Int)) : Prop := (GOk g ∧ M.length ≤ 16) ∧ MdTo g M M.length
/-- An edge joins two sets. -/
def JoinP (g : List (List Int)) (A B : List Int) : Prop := ∃ x ∈ A, ∃ y ∈ B, y ∈ row g x.toNat
/-- The edges of the pattern up to one. -/
def JnTo (g p M : List (List Int)) (i : Nat) : Prop := ∀ e ∈ (edN p.length (ofG p) p.length).take i, JoinP g (row M e.1) (row M e.2)
def MdOk (g p M : List (List Int)) : Prop := ((MdW g M ∧ GOk p) ∧ M.length = p.length) ∧ (∀ a, a < M.length → ConnS g (row M a)) ∧ ∀ e ∈ edN p.length (ofG p) p.length, JoinP g (row M e.1) (row M e.2)

theorem MdTo.zero (g M : List (List Int)) : MdTo g M 0 := fun _ h => absurd h (Nat.not_lt_zero _)
theorem MdTo.snoc {g M : List (List Int)} {k : Nat} (h : MdTo g M k) (h1 : SetIn g.length (row M k)) (h2 : ∀ b, b < k → ∀ x ∈ row M k, x ∉ row M b) : MdTo g M (k + 1) := fun a ha => by
  by_cases e : a < k
  · exact h a e
  · obtain rfl : a = k := by omega
    exact ⟨h1, h2⟩

/-- The word of a model: of each vertex whether a set has it. -/
structure WrdI (n : Nat) (M : List (List Int)) (i k : Nat) (F : List Int) : Prop where
  len : F.length = n
  sgn : ∀ x, x < n → (0 < F.getD x 0 ↔ (∃ a, a < i ∧ (x : Int) ∈ row M a) ∨ (x : Int) ∈ (row M i).take k)
theorem WrdI.start (n : Nat) (M : List (List Int)) : WrdI n M 0 0 (List.replicate n 0) := by
  refine ⟨by simp, fun x hx => ?_⟩
  have h1 : (List.replicate n (0 : Int)).getD x 0 = 0 := by simp [List.getD_eq_getElem?_getD, hx]
  rw [h1]
  simp
theorem WrdI.put {n : Nat} {M : List (List Int)} {i k x : Nat} {F : List Int} (h : WrdI n M i k F) (hk : k < (row M i).length) (hx : (row M i)[k] = (x : Int)) (hn : x < n) (z : Int) (hz : 0 < z) : WrdI n M i (k + 1) (F.set x z) := by
  refine ⟨by rw [List.length_set]; exact h.len, fun y hy => ?_⟩
  rw [take_snoc' _ k hk, hx, List.mem_append, ← or_assoc, ← h.sgn y hy]
  rw [List.getD_eq_getElem?_getD, List.getElem?_set]
  by_cases e : x = y
  · subst e
    simp [h.len, hn, hz]
  · rw [if_neg e, ← List.getD_eq_getElem?_getD]
    have e' : ¬ ((y : Int) = (x : Int)) := by omega
    simp [e']
theorem WrdI.next {n : Nat} {M : List (List Int)} {i : Nat} {F : List Int} (h : WrdI n M i (row M i).length F) : WrdI n M (i + 1) 0 F := by
  refine ⟨h.len, fun y hy => ?_⟩
  rw [h.sgn y hy, List.take_length]
  simp only [List.take_zero, List.not_mem_nil, or_false]
  constructor
  · rintro (⟨a, ha, h1⟩ | h1)
    · exact ⟨a, by omega, h1⟩
    · exact ⟨i, by omega, h1⟩
  · rintro ⟨a, ha, h1⟩
    by_cases e : a < i
    · exact .inl ⟨a, e, h1⟩
    · obtain rfl : a = i := by omega
      exact .inr h1
/-- A vertex that two sets have. -/
theorem wrd_twice {g M : List (List Int)} {i k x : Nat} {F : List Int} (h : WrdI g.length M i k F) (hs : SetIn g.length (row M i)) (hk : k < (row M i).length) (hx : (row M i)[k] = (x : Int)) (hn : x < g.length) (hF : 0 < F.getD x 0) (hi : i < M.length) : ¬ MdTo g M M.length := by
  intro hm
  have hmem : (x : Int) ∈ row M i := by rw [← hx]; exact List.getElem_mem hk
  rcases (h.sgn x hn).1 hF with ⟨a, ha, h1⟩ | h1
  · exact (hm i hi).2 a ha _ hmem h1
  · obtain ⟨j, hj, e⟩ := List.getElem_of_mem h1
    rw [List.length_take] at hj
    rw [List.getElem_take] at e
    have := (List.pairwise_iff_getElem.1 hs.2) j k (by omega) hk (by omega)
    rw [hx, e] at this
    omega
theorem wrd_new {g M : List (List Int)} {i k x : Nat} {F : List Int} (h : WrdI g.length M i k F) (hn : x < g.length) (hF : ¬ 0 < F.getD x 0) : ∀ b, b < i → (x : Int) ∉ row M b := fun b hb k1 => hF ((h.sgn x hn).2 (.inl ⟨b, hb, k1⟩))

/-- The sets of a model of a model. -/
def CmpS (M W R : List (List Int)) : Prop := R.length = W.length ∧ ∀ i, i < W.length → (row R i).Pairwise (· < ·) ∧ ∀ x, x ∈ row R i ↔ ∃ k ∈ row W i, x ∈ row M k.toNat
theorem cmpS_det {M W R R' : List (List Int)} (h : CmpS M W R) (h' : CmpS M W R') : R = R' := by
  refine graph_ext (by rw [h.1, h'.1]) fun r hr => ?_
  rw [h.1] at hr
  refine rising_ext_int _ _ (h.2 r hr).1 (h'.2 r hr).1 fun x => ?_
  rw [(h.2 r hr).2, (h'.2 r hr).2]
/-- What ComposedModel returns. -/
def CmS (g p M q W R : List (List Int)) (ok : Bool) : Prop := (MdOk g p M ∧ MdOk p q W ∧ CmpS M W R ∧ ok = true) ∨ (¬ (MdOk g p M ∧ MdOk p q W) ∧ R = [] ∧ ok = false)
theorem cmS_det {g p M q W R R' : List (List Int)} {ok ok' : Bool} (h : CmS g p M q W R ok) (h' : CmS g p M q W R' ok') : R = R' ∧ ok = ok' := by
  rcases h with ⟨h1, h2, h3, h4⟩ | ⟨h1, h2, h3⟩ <;> rcases h' with ⟨k1, k2, k3, k4⟩ | ⟨k1, k2, k3⟩
  · exact ⟨cmpS_det h3 k3, by rw [h4, k4]⟩
  · exact absurd ⟨h1, h2⟩ k1
  · exact absurd ⟨k1, k2⟩ h1
  · exact ⟨by rw [h2, k2], by rw [h3, k3]⟩

/-- An edge of the graph between two sets, as the reference looks for it. -/
def BtwE (A B : List Int) (e : Nat × Nat) : Prop := ((e.1 : Int) ∈ A ∧ (e.2 : Int) ∈ B) ∨ ((e.2 : Int) ∈ A ∧ (e.1 : Int) ∈ B)
theorem mem_edN' {n : Nat} {E : Nat → Nat → Bool} {a b : Nat} (h1 : a < b) (h2 : b < n) (h3 : E a b = true) : (a, b) ∈ edN n E n := by
  simp only [edN, edRow, List.mem_flatMap, List.mem_range, List.mem_map, List.mem_filter, Bool.and_eq_true, decide_eq_true_eq]
  exact ⟨a, by omega, b, ⟨h2, h1, h3⟩, rfl⟩
theorem join_btw {g : List (List Int)} (hg : GOk g) {A B : List Int} (hA : SetIn g.length A) : JoinP g A B ↔ ∃ e ∈ edN g.length (ofG g) g.length, BtwE A B e := by
  constructor
  · rintro ⟨x, hx, y, hy, h⟩
    have hx1 := hA.1 x hx
    have hxr : x.toNat < g.length := by omega
    have hs := hg.sets x.toNat hxr
    have hy1 := hs.1.1 y h
    have hyr : y.toNat < g.length := by omega
    have hne : y ≠ x := fun e => hs.2 (by rw [Int.toNat_of_nonneg hx1.1]; exact e ▸ h)
    have hsym := hg.both x.toNat hxr y h
    have ex : ((x.toNat : Nat) : Int) = x := by omega
    have ey : ((y.toNat : Nat) : Int) = y := by omega
    by_cases e : x < y
    · exact ⟨(x.toNat, y.toNat), mem_edN' (by omega) hyr (by simp only [ofG, decide_eq_true_eq]; rw [ey]; exact h), .inl ⟨by show ((x.toNat : Nat) : Int) ∈ A; rw [ex]; exact hx, by show ((y.toNat : Nat) : Int) ∈ B; rw [ey]; exact hy⟩⟩
    · exact ⟨(y.toNat, x.toNat), mem_edN' (by omega) hxr (by simp only [ofG, decide_eq_true_eq]; exact hsym), .inr ⟨by show ((x.toNat : Nat) : Int) ∈ A; rw [ex]; exact hx, by show ((y.toNat : Nat) : Int) ∈ B; rw [ey]; exact hy⟩⟩
  · rintro ⟨e, he, h⟩
    obtain ⟨h1, h2, _, h4⟩ := mem_edN (Nat.le_refl _) he
    simp only [ofG, decide_eq_true_eq] at h4
    rcases h with ⟨k1, k2⟩ | ⟨k1, k2⟩
    · exact ⟨_, k1, _, k2, by simpa using h4⟩
    · refine ⟨_, k1, _, k2, ?_⟩
      have := hg.both e.1 h1 _ h4
      simpa using this

end Go.Proofs.YtihlcmenfopaiaaDoor

/- Walks: linking two vertices in a graph that is the callee's own. -/
namespace Go.Proofs.YtihlcmenfopaiaaDoor
open Go.RowKit

theorem get_getD {α : Type} (l : List α) (k : Nat) (d : α) (h : k < l.length) : l[k]? = some (l.getD k d) := by simp [h]

structure LK (w wr : World) (base ob c : Nat) (g : List (List Int)) (vals : List Value) : Prop where
  len : vals.length = g.length
  own : wr.ownsRow base 27 1 (.slice (some ⟨ob, 0, none⟩) g.length c) g.length vals
  rows : ∀ j, j < g.length → Nums wr 2 .i64 (vals.getD j undef) (row g j)
  box : Box wr w.heap.size 29 (.slice (some ⟨ob, 0, none⟩) g.length c)
  res : Box wr (w.heap.size + 1) 29 (.slice none 0 0)
  grown : w.grownBy wr (some ob)
  lt : ob < w.heap.size

theorem LK.step {w wr w2 : World} {base ob c : Nat} {g : List (List Int)} {vals : List Value} (h : LK w wr base ob c g vals) (hb : Below wr.heap.size wr w2) {rv : Value} {s : List Int} (hn : Nums w2 2 .i64 rv s) {u : Nat} (hu : u < g.length) :
    LK w (w2.setCell ⟨ob, u, none⟩ rv) base ob c (g.set u s) (vals.set u rv) := by
  have ho := ownsRow_below h.own hb
  obtain ⟨ho2, hg2⟩ := ho.stored u rv
  have hl := h.lt
  refine ⟨by simp [h.len], by rw [List.length_set]; exact ho2, fun j hj => ?_, ?_, ?_, grown_trans (grown_trans h.grown (grown_of_below hb _)) hg2, hl⟩
  · rw [List.length_set] at hj
    rw [row_set _ _ _ _ hu]
    by_cases e : j = u
    · subst e
      rw [if_pos rfl]
      have : (vals.set j rv).getD j undef = rv := by simp [h.len, hj]
      rw [this]
      exact hn.other ho hg2 (by decide)
    · rw [if_neg e]
      have : (vals.set u rv).getD j undef = vals.getD j undef := by simp [show ¬ u = j from fun q => e q.symm]
      rw [this]
      exact ((h.rows j hj).below hb).other ho hg2 (by decide)
  · rw [List.length_set]
    exact (h.box.keep hb).setOther (by show w.heap.size ≠ ob; omega) _
  · exact (h.res.keep hb).setOther (by show w.heap.size + 1 ≠ ob; omega) _

set_option maxRecDepth 100000 in
set_option maxHeartbeats 4000000 in
theorem l1Link_any (p : Option Addr) (c : Nat) (g : List (List Int)) (y z : Int) (u k base : Nat) (hy : y = u) (hz : z = k) (hu : u < g.length) (hk : k < g.length) (hr : ∀ j, j < g.length → (row g j).length ≤ 1000) (w : World)
    (hs : SG w base (.agg #[.slice p g.length c]) g) :
    Calls Tryd.prog 177 #[.agg #[.slice p g.length c], .int .i64 y, .int .i64 z] w fun e w' => e = .returned (.agg #[.slice p g.length c]) ∧ SG w' base (.agg #[.slice p g.length c]) (linkL g u k) ∧ w.grownBy w' (Value.slice p g.length c).ownBlock := by
  subst hy; subst hz
  obtain ⟨_, vals, h1, hl, ho, hrows⟩ := hs
  cases h1
  obtain ⟨ob, rfl⟩ : ∃ ob, p = some ⟨ob, 0, none⟩ := by
    rcases ho.2 with ⟨_, h0⟩ | ⟨b, cc, _, h1, _⟩
    · omega
    · simp only [Value.slice.injEq] at h1
      exact ⟨b, h1.1⟩
  have hlt := (ho.lt ob rfl).2
  have hbb := below_alloc2 w (.cells #[.slice (some ⟨ob, 0, none⟩) g.length c] 29) (.cells #[.slice none 0 0] 29)
  have START : Hid (LK w ((w.alloc (.cells #[.slice (some ⟨ob, 0, none⟩) g.length c] 29)).alloc (.cells #[.slice none 0 0] 29)) base ob c g vals) := Lib.hid
    ⟨hl, ownsRow_below ho hbb, fun j hj => (hrows j hj).below hbb, (Box.new _ _ _).alloc _, by have := Box.new (w.alloc (.cells #[.slice (some ⟨ob, 0, none⟩) g.length c] 29)) (.slice none 0 0) 29; rw [size_alloc] at this; exact this, grown_of_below hbb _, hlt⟩
  have HR := Lib.hid hr
  clear hl ho hrows hbb hr
  go_enter Tryd.func177, Tryd.ntmps177
  go_upto_region 1 with fail
  generalize hW : (w.alloc (.cells #[.slice (some ⟨ob, 0, none⟩) g.length c] 29)).alloc (.cells #[.slice none 0 0] 29) = W at *
  clear hW
  obtain ⟨bc, bf, _, _⟩ := START.out.box
  obtain ⟨rp, rc, hrs, _⟩ := (START.out.rows u hu).shape
  have hcu := START.out.own.cellAt u (by omega)
  have hv0 := get_getD vals u undef (by rw [START.out.len]; exact hu)
  rw [hv0, hrs] at hcu
  have hnu := Lib.hid (START.out.rows u hu)
  rw [hrs] at hnu
  have hru := HR.out u hu
  clear hv0 hrs
  go_cut [] (fun wx => ∃ rv, LK w wx base ob c (g.set u (intoL (row g u) k)) (vals.set u rv))
  case first =>
    go_region_law (first | (go_simp; go_at_call 62; refine (l1Into_any _ (row g u) k (by omega) _ (hnu.out.below (below_dN (Below.refl _ _) 1))).mono ?_; rintro e w2 ⟨rv, rfl, hn2, hb2⟩; obtain ⟨rvp, rvc, rfl, _⟩ := hn2.shape; have hb2' : Below W.heap.size W w2 := (below_dN (Below.refl _ _) 1).trans hb2; have hf2 := (ownsRow_below START.out.own hb2').frozenAt u; have hc2 := hb2'.at' hcu; have hbc2 := hb2'.at' bc))
    all_goals go_wp2
    all_goals go_meet
    all_goals exact ⟨_, START.out.step hb2' hn2 hu⟩
  case rest =>
    obtain ⟨rv0, hlk⟩ := hcut
    have HL := Lib.hid hlk
    have hk' : k < (g.set u (intoL (row g u) k)).length := by simpa using hk
    obtain ⟨bc, bf, _, _⟩ := hlk.box
    obtain ⟨rp, rc, hrs, _⟩ := (hlk.rows k hk').shape
    have hcu := hlk.own.cellAt k (by omega)
    have hv0 := get_getD (vals.set u rv0) k undef (by rw [hlk.len]; exact hk')
    rw [hv0, hrs] at hcu
    have hnu := Lib.hid (hlk.rows k hk')
    rw [hrs] at hnu
    have hl1 : (g.set u (intoL (row g u) k)).length = g.length := by simp
    have hru : (row (g.set u (intoL (row g u) k)) k).length ≤ 2000 := by
      rw [row_set _ _ _ _ hu]
      split
      · have := intoL_length (row g u) k; have := HR.out u hu; omega
      · have := HR.out k hk; omega
    rw [hl1] at bc
    clear hv0 hrs hlk
    generalize hr1 : row (g.set u (intoL (row g u) k)) k = r1 at hru hcu hnu
    go_upto_region 2 with fail
    go_cut [] (fun wx => ∃ rv, LK w wx base ob c (linkL g u k) ((vals.set u rv0).set k rv))
    case first =>
      go_region_law (first | (go_simp; go_at_call 62; refine (l1Into_any _ r1 u (by omega) _ (hnu.out.below (below_dN (Below.refl _ _) 1))).mono ?_; rintro e w2 ⟨rv, rfl, hn2, hb2⟩; obtain ⟨rvp, rvc, rfl, _⟩ := hn2.shape; have hb2' : Below wc.heap.size wc w2 := (below_dN (Below.refl _ _) 1).trans hb2; have hf2 := (ownsRow_below HL.out.own hb2').frozenAt k; have hc2 := hb2'.at' hcu; have hbc2 := hb2'.at' bc))
      all_goals go_wp2
      all_goals go_meet
      all_goals exact ⟨_, by rw [show linkL g u k = (g.set u (intoL (row g u) k)).set k (intoL r1 u) from by unfold linkL; rw [hr1]]; exact HL.out.step hb2' hn2 hk'⟩
    case rest =>
      obtain ⟨rv1, hlk⟩ := hcut
      have HL2 := Lib.hid hlk
      obtain ⟨bc, bf, _, _⟩ := hlk.box
      obtain ⟨k2c, k2f, _⟩ := hlk.res
      rw [linkL_length] at bc
      clear hlk
      go_wp2
      refine bodyPost_ret (v := .agg #[.slice (some ⟨ob, 0, none⟩) g.length c]) (by simp [results, Tryd.results177, go_sem, k2c]) rfl ⟨rfl, ⟨_, _, rfl, HL2.out.len, ?_, fun j hj => ?_⟩, ?_⟩
      · exact ownsRow_setBox (by have := HL2.out.own; rw [linkL_length] at this ⊢; exact this) HL2.out.res (by decide) _
      · exact (HL2.out.rows j hj).setBox HL2.out.res (by decide) _
      · have hlt' := HL2.out.lt
        refine ⟨HL2.out.grown.os, HL2.out.grown.tape, HL2.out.grown.output, by have := HL2.out.grown.size; simpa [World.setCell] using this, fun b hb hne => ?_⟩
        rw [Below.heap_setCell _ _ _ _ (by show b ≠ w.heap.size + 1; omega)]
        exact HL2.out.grown.block b hb hne

end Go.Proofs.YtihlcmenfopaiaaDoor
