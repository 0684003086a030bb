/- Plain: the quotient of a graph at a node of a tree. -/
import Derived.Test.YtfphapcgjlhieaaDoorQtQ22
import Derived.Test.YtfphapcgjlhieaaDoorQtQ14
import Derived.Test.YtfphapcgjlhieaaDoorQtQ16
import Derived.Deep.RegionLaw
namespace Go.Proofs.YtfphapcgjlhieaaDoor

theorem sc_cover {ts : List Pt} : ∀ (i : Nat) (R : List Nat), scT ts i 0 [] = some R → ∀ j, j < i → ∀ b, ((mskT ts).getD j 0).testBit b = true → ∃ r ∈ R, ((mskT ts).getD r 0).testBit b = true
  | 0, _, _, j, hj, _, _ => by omega
  | i + 1, R, h, j, hj, b, hb => by
    have hgood := (sc_good _ _ h).2
    rw [scT_snoc] at h
    cases hs : scT ts i 0 [] with
    | none => rw [hs] at h; cases h
    | some R0 =>
      rw [hs] at h
      by_cases e : j = i
      · subst e
        obtain ⟨p, _, ⟨_, rfl⟩ | ⟨_, _, rfl⟩⟩ := stT_some h
        · exact ⟨j, List.mem_cons_self .., hb⟩
        · exact ⟨j, List.mem_cons_self .., hb⟩
      · obtain ⟨r, hr, hrb⟩ := sc_cover i R0 hs j (by omega) b hb
        obtain ⟨p, hp, ⟨_, rfl⟩ | ⟨hi, hla, rfl⟩⟩ := stT_some h
        · exact ⟨r, List.mem_cons_of_mem _ hr, hrb⟩
        · rw [← List.take_append_drop p.s.length R0, List.mem_append] at hr
          rcases hr with hr | hr
          · refine ⟨i, List.mem_cons_self .., ?_⟩
            obtain ⟨p', hp', hh⟩ := mskT_good (hgood i (by omega))
            obtain rfl : p = p' := Option.some.inj (hp.symm.trans hp')
            rcases hh with ⟨hl, _⟩ | ⟨_, _, hm⟩
            · exact absurd hi (leaf_not_inn hl)
            · rw [hm, orM_bit]
              refine ⟨(r : Int), ?_, by rw [Int.toNat_natCast]; exact hrb⟩
              have : (r : Int) ∈ p.s.reverse := by rw [hla.2, mem_natInts]; exact ⟨r, hr, rfl⟩
              exact List.mem_reverse.1 this
          · exact ⟨r, List.mem_cons_of_mem _ hr, hrb⟩

/-- The nodes of a right tree. -/
theorem parts_good {ts : List Pt} (h : PartsI ts) : ∀ j, j < ts.length → GoodN ts j := (sc_good _ _ h.1).2
theorem parts_bit {ts : List Pt} (h : PartsI ts) {j : Nat} (hj : j < ts.length) {b : Nat} (hb : ((mskT ts).getD j 0).testBit b = true) : b < cn (rootM ts) := by
  obtain ⟨r, hr, hrb⟩ := sc_cover _ _ h.1 j hj b hb
  rw [List.mem_singleton] at hr
  subst hr
  have h2 : (rootM ts).testBit b = true := hrb
  rw [h.2.2.2, testBit_firstOf] at h2
  exact of_decide_eq_true h2
theorem parts_strict {ts : List Pt} (h : PartsI ts) {j : Nat} {p : Pt} (hp : ts[j]? = some p) : RisS (mskT ts) p := ((tparts_iff ts).1 h).2.2.2.1 j p hp
theorem parts_kids {ts : List Pt} (h : PartsI ts) {j : Nat} {p : Pt} (hp : ts[j]? = some p) : ∀ k ∈ p.s, 0 ≤ k ∧ k < j := fun k hk => by
  obtain ⟨p', hp', hh⟩ := parts_good h j (List.getElem?_eq_some_iff.1 hp).1
  obtain rfl : p = p' := Option.some.inj (hp.symm.trans hp')
  rcases hh with hl | hi
  · rw [hl.2.2.2] at hk; cases hk
  · exact hi.2 k hk

/-- The least vertices of the kids. -/
def quoL (ts : List Pt) (p : Pt) : List Nat := p.s.map fun k => Lib.ctz 32 ((mskT ts).getD k.toNat 0)
theorem quoL_length (ts : List Pt) (p : Pt) : (quoL ts p).length = p.s.length := by simp [quoL]
theorem rising_adj : ∀ (l : List Nat), (∀ m (h : m + 1 < l.length), l[m] < l[m + 1]) → l.Pairwise (· < ·)
  | [], _ => .nil
  | [a], _ => by simp
  | a :: b :: l, h => by
    have ih := rising_adj (b :: l) fun m hm => h (m + 1) (by simpa using hm)
    have h0 : a < b := h 0 (by simp)
    refine List.pairwise_cons.2 ⟨fun x hx => ?_, ih⟩
    rcases List.mem_cons.1 hx with rfl | hx
    · exact h0
    · have := (List.pairwise_cons.1 ih).1 x hx
      omega
theorem quoL_rising {ts : List Pt} {p : Pt} (h : RisS (mskT ts) p) : (quoL ts p).Pairwise (· < ·) := by
  refine rising_adj _ fun m hm0 => ?_
  have hm := hm0
  rw [quoL_length] at hm
  have := h m hm
  rw [getD_atT (show m < p.s.length by omega), getD_atT hm] at this
  simpa [quoL] using this
def QtP (g : List (List Int)) (ts : List Pt) (x : Int) : Prop := GOk g ∧ PartsI ts ∧ cn (rootM ts) = g.length ∧ 0 ≤ x ∧ x < ts.length ∧ ∀ p, ts[x.toNat]? = some p → p.k ≠ 1
/-- What QuotientAt returns. -/
def QtS (g : List (List Int)) (ts : List Pt) (x : Int) (R : List (List Int)) (ok : Bool) : Prop :=
  (QtP g ts x ∧ ok = true ∧ ∃ p, ts[x.toNat]? = some p ∧ R = indL g (natInts (quoL ts p))) ∨ (¬ QtP g ts x ∧ ok = false ∧ R = [])
theorem qtS_det {g : List (List Int)} {ts : List Pt} {x : Int} {R R' : List (List Int)} {a b : Bool} (h : QtS g ts x R a) (k : QtS g ts x R' b) : R = R' ∧ a = b := by
  rcases h with ⟨h1, h2, p, hp, h3⟩ | ⟨h1, h2, h3⟩ <;> rcases k with ⟨k1, k2, q, hq, k3⟩ | ⟨k1, k2, k3⟩
  · obtain rfl := Option.some.inj (hp.symm.trans hq)
    exact ⟨h3.trans k3.symm, h2.trans k2.symm⟩
  · exact absurd h1 k1
  · exact absurd k1 h1
  · exact ⟨h3.trans k3.symm, h2.trans k2.symm⟩
theorem quo_inn {g : List (List Int)} {ts : List Pt} {x : Int} (h : QtP g ts x) {p : Pt} (hp : ts[x.toNat]? = some p) : InnP p ∧ SetIn g.length (natInts (quoL ts p)) ∧ quoL ts p ≠ [] ∧ (quoL ts p).length ≤ 16 ∧ ∀ v ∈ quoL ts p, v < g.length := by
  obtain ⟨h1, h2, h3, h4, h5, h6⟩ := h
  have hx := (List.getElem?_eq_some_iff.1 hp).1
  have hin : InnP p := by
    obtain ⟨p', hp', hh⟩ := parts_good h2 _ hx
    obtain rfl : p = p' := Option.some.inj (hp.symm.trans hp')
    rcases hh with hl | hi
    · exact absurd hl.1 (h6 p hp)
    · exact hi.1
  have hlt : ∀ v ∈ quoL ts p, v < g.length := fun v hv => by
    unfold quoL at hv
    obtain ⟨k, hk, rfl⟩ := List.mem_map.1 hv
    have hk2 := parts_kids h2 hp k hk
    have hm := msk_ok (ts := ts) ts.length (parts_good h2) k.toNat (by omega)
    rw [← h3]
    exact parts_bit h2 (j := k.toNat) (by omega) (testBit_ctz _ hm.2 (by omega)).1
  have hr := quoL_rising (parts_strict h2 hp)
  have hset : SetIn g.length (natInts (quoL ts p)) := by
    refine ⟨fun y hy => ?_, ?_⟩
    · obtain ⟨i, hi, rfl⟩ := mem_natInts.1 hy
      have := hlt i hi
      omega
    · exact List.pairwise_map.2 (hr.imp fun {a b} hab => by omega)
  have hl16 := setIn_length (by omega) hset
  rw [natInts_length] at hl16
  have := h1.le
  refine ⟨hin, hset, fun e => ?_, by omega, hlt⟩
  have h7 := hin.2.2
  rw [← quoL_length ts, e] at h7
  simp at h7
theorem quoL_snoc {ts : List Pt} {a b : Int} {s : List Int} {k : Nat} (hk : k < s.length) : (quoL ts ⟨a, b, s⟩).take (k + 1) = (quoL ts ⟨a, b, s⟩).take k ++ [Lib.ctz 32 ((mskT ts).getD (s[k]).toNat 0)] := by
  unfold quoL
  rw [← List.map_take, ← List.map_take, List.take_succ_eq_append_getElem (show k < (⟨a, b, s⟩ : Pt).s.length from hk), List.map_append]
  rfl

end Go.Proofs.YtfphapcgjlhieaaDoor

/- Walks: linking two vertices in a graph that is the callee's own. -/
namespace Go.Proofs.YtfphapcgjlhieaaDoor
open Go.RowKit

theorem get_getD {α : Type} (l : List α) (k : Nat) (d : α) (h : k < l.length) : l[k]? = some (l.getD k d) := by simp [h]

structure LK (w wr : World) (base ob c : Nat) (g : List (List Int)) (vals : List Value) : Prop where
  len : vals.length = g.length
  own : wr.ownsRow base 52 1 (.slice (some ⟨ob, 0, none⟩) g.length c) g.length vals
  rows : ∀ j, j < g.length → Nums wr 2 .i64 (vals.getD j undef) (row g j)
  box : Box wr w.heap.size 26 (.slice (some ⟨ob, 0, none⟩) g.length c)
  res : Box wr (w.heap.size + 1) 26 (.slice none 0 0)
  grown : w.grownBy wr (some ob)
  lt : ob < w.heap.size

theorem LK.step {w wr w2 : World} {base ob c : Nat} {g : List (List Int)} {vals : List Value} (h : LK w wr base ob c g vals) (hb : Below wr.heap.size wr w2) {rv : Value} {s : List Int} (hn : Nums w2 2 .i64 rv s) {u : Nat} (hu : u < g.length) :
    LK w (w2.setCell ⟨ob, u, none⟩ rv) base ob c (g.set u s) (vals.set u rv) := by
  have ho := ownsRow_below h.own hb
  obtain ⟨ho2, hg2⟩ := ho.stored u rv
  have hl := h.lt
  refine ⟨by simp [h.len], by rw [List.length_set]; exact ho2, fun j hj => ?_, ?_, ?_, grown_trans (grown_trans h.grown (grown_of_below hb _)) hg2, hl⟩
  · rw [List.length_set] at hj
    rw [row_set _ _ _ _ hu]
    by_cases e : j = u
    · subst e
      rw [if_pos rfl]
      have : (vals.set j rv).getD j undef = rv := by simp [h.len, hj]
      rw [this]
      exact hn.other ho hg2 (by decide)
    · rw [if_neg e]
      have : (vals.set u rv).getD j undef = vals.getD j undef := by simp [show ¬ u = j from fun q => e q.symm]
      rw [this]
      exact ((h.rows j hj).below hb).other ho hg2 (by decide)
  · rw [List.length_set]
    exact (h.box.keep hb).setOther (by show w.heap.size ≠ ob; omega) _
  · exact (h.res.keep hb).setOther (by show w.heap.size + 1 ≠ ob; omega) _

set_option maxRecDepth 100000 in
set_option maxHeartbeats 4000000 in
theorem l1Link_any (p : Option Addr) (c : Nat) (g : List (List Int)) (y z : Int) (u k base : Nat) (hy : y = u) (hz : z = k) (hu : u < g.length) (hk : k < g.length) (hr : ∀ j, j < g.length → (row g j).length ≤ 1000) (w : World)
    (hs : SG w base (.agg #[.slice p g.length c]) g) :
    Calls Tryd.prog 126 #[.agg #[.slice p g.length c], .int .i64 y, .int .i64 z] w fun e w' => e = .returned (.agg #[.slice p g.length c]) ∧ SG w' base (.agg #[.slice p g.length c]) (linkL g u k) ∧ w.grownBy w' (Value.slice p g.length c).ownBlock := by
  subst hy; subst hz
  obtain ⟨_, vals, h1, hl, ho, hrows⟩ := hs
  cases h1
  obtain ⟨ob, rfl⟩ : ∃ ob, p = some ⟨ob, 0, none⟩ := by
    rcases ho.2 with ⟨_, h0⟩ | ⟨b, cc, _, h1, _⟩
    · omega
    · simp only [Value.slice.injEq] at h1
      exact ⟨b, h1.1⟩
  have hlt := (ho.lt ob rfl).2
  have hbb := below_alloc2 w (.cells #[.slice (some ⟨ob, 0, none⟩) g.length c] 26) (.cells #[.slice none 0 0] 26)
  have START : Hid (LK w ((w.alloc (.cells #[.slice (some ⟨ob, 0, none⟩) g.length c] 26)).alloc (.cells #[.slice none 0 0] 26)) base ob c g vals) := Lib.hid
    ⟨hl, ownsRow_below ho hbb, fun j hj => (hrows j hj).below hbb, (Box.new _ _ _).alloc _, by have := Box.new (w.alloc (.cells #[.slice (some ⟨ob, 0, none⟩) g.length c] 26)) (.slice none 0 0) 26; rw [size_alloc] at this; exact this, grown_of_below hbb _, hlt⟩
  have HR := Lib.hid hr
  clear hl ho hrows hbb hr
  go_enter Tryd.func126, Tryd.ntmps126
  go_upto_region 1 with fail
  generalize hW : (w.alloc (.cells #[.slice (some ⟨ob, 0, none⟩) g.length c] 26)).alloc (.cells #[.slice none 0 0] 26) = W at *
  clear hW
  obtain ⟨bc, bf, _, _⟩ := START.out.box
  obtain ⟨rp, rc, hrs, _⟩ := (START.out.rows u hu).shape
  have hcu := START.out.own.cellAt u (by omega)
  have hv0 := get_getD vals u undef (by rw [START.out.len]; exact hu)
  rw [hv0, hrs] at hcu
  have hnu := Lib.hid (START.out.rows u hu)
  rw [hrs] at hnu
  have hru := HR.out u hu
  clear hv0 hrs
  go_cut [] (fun wx => ∃ rv, LK w wx base ob c (g.set u (intoL (row g u) k)) (vals.set u rv))
  case first =>
    go_region_law (first | (go_simp; go_at_call 113; refine (l1Into_any _ (row g u) k (by omega) _ (hnu.out.below (below_dN (Below.refl _ _) 1))).mono ?_; rintro e w2 ⟨rv, rfl, hn2, hb2⟩; obtain ⟨rvp, rvc, rfl, _⟩ := hn2.shape; have hb2' : Below W.heap.size W w2 := (below_dN (Below.refl _ _) 1).trans hb2; have hf2 := (ownsRow_below START.out.own hb2').frozenAt u; have hc2 := hb2'.at' hcu; have hbc2 := hb2'.at' bc))
    all_goals go_wp2
    all_goals go_meet
    all_goals exact ⟨_, START.out.step hb2' hn2 hu⟩
  case rest =>
    obtain ⟨rv0, hlk⟩ := hcut
    have HL := Lib.hid hlk
    have hk' : k < (g.set u (intoL (row g u) k)).length := by simpa using hk
    obtain ⟨bc, bf, _, _⟩ := hlk.box
    obtain ⟨rp, rc, hrs, _⟩ := (hlk.rows k hk').shape
    have hcu := hlk.own.cellAt k (by omega)
    have hv0 := get_getD (vals.set u rv0) k undef (by rw [hlk.len]; exact hk')
    rw [hv0, hrs] at hcu
    have hnu := Lib.hid (hlk.rows k hk')
    rw [hrs] at hnu
    have hl1 : (g.set u (intoL (row g u) k)).length = g.length := by simp
    have hru : (row (g.set u (intoL (row g u) k)) k).length ≤ 2000 := by
      rw [row_set _ _ _ _ hu]
      split
      · have := intoL_length (row g u) k; have := HR.out u hu; omega
      · have := HR.out k hk; omega
    rw [hl1] at bc
    clear hv0 hrs hlk
    generalize hr1 : row (g.set u (intoL (row g u) k)) k = r1 at hru hcu hnu
    go_upto_region 2 with fail
    go_cut [] (fun wx => ∃ rv, LK w wx base ob c (linkL g u k) ((vals.set u rv0).set k rv))
    case first =>
      go_region_law (first | (go_simp; go_at_call 113; refine (l1Into_any _ r1 u (by omega) _ (hnu.out.below (below_dN (Below.refl _ _) 1))).mono ?_; rintro e w2 ⟨rv, rfl, hn2, hb2⟩; obtain ⟨rvp, rvc, rfl, _⟩ := hn2.shape; have hb2' : Below wc.heap.size wc w2 := (below_dN (Below.refl _ _) 1).trans hb2; have hf2 := (ownsRow_below HL.out.own hb2').frozenAt k; have hc2 := hb2'.at' hcu; have hbc2 := hb2'.at' bc))
      all_goals go_wp2
      all_goals go_meet
      all_goals exact ⟨_, by rw [show linkL g u k = (g.set u (intoL (row g u) k)).set k (intoL r1 u) from by unfold linkL; rw [hr1]]; exact HL.out.step hb2' hn2 hk'⟩
    case rest =>
      obtain ⟨rv1, hlk⟩ := hcut
      have HL2 := Lib.hid hlk
      obtain ⟨bc, bf, _, _⟩ := hlk.box
      obtain ⟨k2c, k2f, _⟩ := hlk.res
      rw [linkL_length] at bc
      clear hlk
      go_wp2
      refine bodyPost_ret (v := .agg #[.slice (some ⟨ob, 0, none⟩) g.length c]) (by simp [results, Tryd.results126, go_sem, k2c]) rfl ⟨rfl, ⟨_, _, rfl, HL2.out.len, ?_, fun j hj => ?_⟩, ?_⟩
      · exact ownsRow_setBox (by have := HL2.out.own; rw [linkL_length] at this ⊢; exact this) HL2.out.res (by decide) _
      · exact (HL2.out.rows j hj).setBox HL2.out.res (by decide) _
      · have hlt' := HL2.out.lt
        refine ⟨HL2.out.grown.os, HL2.out.grown.tape, HL2.out.grown.output, by have := HL2.out.grown.size; simpa [World.setCell] using this, fun b hb hne => ?_⟩
        rw [Below.heap_setCell _ _ _ _ (by show b ≠ w.heap.size + 1; omega)]
        exact HL2.out.grown.block b hb hne

end Go.Proofs.YtfphapcgjlhieaaDoor
