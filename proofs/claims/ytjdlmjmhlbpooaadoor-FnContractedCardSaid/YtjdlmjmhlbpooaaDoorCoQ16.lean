/- Walk: linking two vertices in a graph whose rows are the callee's own, each in a block of its own. -/
import Derived.Test.YtjdlmjmhlbpooaaDoorCoQ9
import Derived.Test.YtjdlmjmhlbpooaaDoorCoQ14
import Derived.Test.YtjdlmjmhlbpooaaDoorCoQ15
import Derived.Deep.RegionLaw
namespace Go.Proofs.YtjdlmjmhlbpooaaDoor
open Go.RowKit

structure LKD (w wr : World) (base ob c : Nat) (g : List (List Int)) (vals : List Value) : Prop where
  len : vals.length = g.length
  own : wr.ownsRow base 26 1 (.slice (some ⟨ob, 0, none⟩) g.length c) g.length vals
  rows : Dis wr base g.length vals g
  small : ∀ j, j < g.length → (row g j).length ≤ 100000
  low : base ≤ w.heap.size
  box : Box wr w.heap.size 29 (.slice (some ⟨ob, 0, none⟩) g.length c)
  res : Box wr (w.heap.size + 1) 29 (.slice none 0 0)
  grown : w.grownBy wr (some ob)
  lt : ob < w.heap.size

theorem LKD.nums {w wr : World} {base ob c : Nat} {g : List (List Int)} {vals : List Value} (h : LKD w wr base ob c g vals) (j : Nat) (hj : j < g.length) : Nums wr 2 .i64 (vals.getD j undef) (row g j) :=
  Nums.of_owns (h.rows.rows j hj) rfl (by have := h.small j hj; omega)
/-- A row behind the others is put in the place of one. -/
theorem Dis.put {wr w2 W : World} {base u : Nat} {g : List (List Int)} {vals : List Value} {rv : Value} {s : List Int} (h : Dis wr base g.length vals g) (hl : vals.length = g.length) (hu : u < g.length) (hb : Below wr.heap.size wr w2) (hB : base ≤ wr.heap.size)
    (hn : w2.ownsRow wr.heap.size 2 1 rv s.length (s.map (Value.int .i64)))
    (hW : ∀ base size n v (xs : List Value), w2.ownsRow base 2 size v n xs → W.ownsRow base 2 size v n xs) : Dis W base g.length (vals.set u rv) (g.set u s) := by
  have e1 : ∀ j, j ≠ u → (vals.set u rv).getD j undef = vals.getD j undef := fun j hj => by simp [show ¬ u = j from fun q => hj q.symm]
  have e2 : (vals.set u rv).getD u undef = rv := by simp [hl, hu]
  refine ⟨fun j hj => ?_, fun i j hi hj hne b hbi => ?_⟩
  · rw [row_set _ _ _ _ hu]
    by_cases e : j = u
    · subst e
      rw [if_pos rfl, e2]
      exact hW _ _ _ _ _ (ownsRow_base hn hB)
    · rw [if_neg e, e1 j e]
      exact hW _ _ _ _ _ (ownsRow_below (h.rows j hj) hb)
  · by_cases ei : i = u
    · subst ei
      rw [e2] at hbi
      rw [e1 j (fun e => hne e.symm)]
      intro hc
      have := (hn.lt b hbi).1
      have := ((h.rows j hj).lt b hc).2
      omega
    · rw [e1 i ei] at hbi
      by_cases ej : j = u
      · subst ej
        rw [e2]
        intro hc
        have := (hn.lt b hc).1
        have := ((h.rows i hi).lt b hbi).2
        omega
      · rw [e1 j ej]
        exact h.dis i j hi hj hne b hbi
theorem LKD.step {w wr w2 : World} {base ob c : Nat} {g : List (List Int)} {vals : List Value} (h : LKD w wr base ob c g vals) (hb : Below wr.heap.size wr w2) {rv : Value} {s : List Int} (hn : w2.ownsRow wr.heap.size 2 1 rv s.length (s.map (Value.int .i64))) (hs : s.length ≤ 100000) {u : Nat} (hu : u < g.length) :
    LKD w (w2.setCell ⟨ob, u, none⟩ rv) base ob c (g.set u s) (vals.set u rv) := by
  have ho := ownsRow_below h.own hb
  obtain ⟨ho2, hg2⟩ := ho.stored u rv
  have hl := h.lt
  refine ⟨by simp [h.len], by rw [List.length_set]; exact ho2, ?_, fun j hj => ?_, h.low, ?_, ?_, grown_trans (grown_trans h.grown (grown_of_below hb _)) hg2, hl⟩
  · rw [List.length_set]
    exact h.rows.put h.len hu hb (Nat.le_trans h.low h.grown.size) hn fun base size n v xs hx => ownsRow_other hx ho hg2 (by decide)
  · rw [List.length_set] at hj
    rw [row_set _ _ _ _ hu]
    split
    · exact hs
    · exact h.small j hj
  · rw [List.length_set]
    exact (h.box.keep hb).setOther (by show w.heap.size ≠ ob; omega) _
  · exact (h.res.keep hb).setOther (by show w.heap.size + 1 ≠ ob; omega) _

set_option maxRecDepth 100000 in
set_option maxHeartbeats 4000000 in
theorem l1LinkD_any (p : Option Addr) (c : Nat) (g : List (List Int)) (y z : Int) (u k base : Nat) (hy : y = u) (hz : z = k) (hu : u < g.length) (hk : k < g.length) (huk : u ≠ k) (hn1 : (k : Int) ∉ row g u) (hn2 : (u : Int) ∉ row g k) (hr : ∀ j, j < g.length → (row g j).length ≤ 1000) (w : World)
    (hs : DG w base (.agg #[.slice p g.length c]) g) :
    Calls Tryd.prog 120 #[.agg #[.slice p g.length c], .int .i64 y, .int .i64 z] w fun e w' => e = .returned (.agg #[.slice p g.length c]) ∧ DG w' base (.agg #[.slice p g.length c]) (linkL g u k) ∧ w.grownBy w' (Value.slice p g.length c).ownBlock := by
  subst hy; subst hz
  obtain ⟨_, vals, h1, hl, ho, hrows⟩ := hs
  cases h1
  obtain ⟨ob, rfl⟩ : ∃ ob, p = some ⟨ob, 0, none⟩ := by
    rcases ho.2 with ⟨_, h0⟩ | ⟨b, cc, _, h1, _⟩
    · omega
    · simp only [Value.slice.injEq] at h1
      exact ⟨b, h1.1⟩
  have hlt := (ho.lt ob rfl).2
  have hbb := below_alloc2 w (.cells #[.slice (some ⟨ob, 0, none⟩) g.length c] 29) (.cells #[.slice none 0 0] 29)
  have START : Hid (LKD w ((w.alloc (.cells #[.slice (some ⟨ob, 0, none⟩) g.length c] 29)).alloc (.cells #[.slice none 0 0] 29)) base ob c g vals) := Lib.hid
    ⟨hl, ownsRow_below ho hbb, ⟨fun j hj => ownsRow_below (hrows.rows j hj) hbb, hrows.dis⟩, fun j hj => by have := hr j hj; omega, (by have := ho.lt ob rfl; omega), (Box.new _ _ _).alloc _, by have := Box.new (w.alloc (.cells #[.slice (some ⟨ob, 0, none⟩) g.length c] 29)) (.slice none 0 0) 29; rw [size_alloc] at this; exact this, grown_of_below hbb _, hlt⟩
  have HR := Lib.hid hr
  have HN1 := Lib.hid hn1
  have HN2 := Lib.hid hn2
  clear hl ho hrows hbb hr hn1 hn2
  go_enter Tryd.func120, Tryd.ntmps120
  go_upto_region 1 with fail
  generalize hW : (w.alloc (.cells #[.slice (some ⟨ob, 0, none⟩) g.length c] 29)).alloc (.cells #[.slice none 0 0] 29) = W at *
  clear hW
  obtain ⟨bc, bf, _, _⟩ := START.out.box
  obtain ⟨rp, rc, hrs, _⟩ := (START.out.nums u hu).shape
  have hcu := START.out.own.cellAt u (by omega)
  have hv0 := get_getD vals u undef (by rw [START.out.len]; exact hu)
  rw [hv0, hrs] at hcu
  have hnu := Lib.hid (START.out.nums u hu)
  rw [hrs] at hnu
  have hru := HR.out u hu
  clear hv0 hrs
  go_cut [] (fun wx => ∃ rv, LKD w wx base ob c (g.set u (intoL (row g u) k)) (vals.set u rv))
  case first =>
    go_region_law (first | (go_simp; go_at_call 134; refine (l1IntoNew_any _ (row g u) k (by omega) HN1.out _ (hnu.out.below (below_dN (Below.refl _ _) 1))).mono ?_; rintro e w2 ⟨rv, rfl, hn2, hb2⟩; obtain ⟨rvp, rvc, rfl⟩ := owns_shapeR hn2; have hb2' : Below W.heap.size W w2 := (below_dN (Below.refl _ _) 1).trans hb2; have hf2 := (ownsRow_below START.out.own hb2').frozenAt u; have hc2 := hb2'.at' hcu; have hbc2 := hb2'.at' bc))
    all_goals go_wp2
    all_goals go_meet
    all_goals exact ⟨_, START.out.step hb2' hn2 (by have := intoL_length (row g u) k; omega) hu⟩
  case rest =>
    obtain ⟨rv0, hlk⟩ := hcut
    have HL := Lib.hid hlk
    have hk' : k < (g.set u (intoL (row g u) k)).length := by simpa using hk
    obtain ⟨bc, bf, _, _⟩ := hlk.box
    obtain ⟨rp, rc, hrs, _⟩ := (hlk.nums k hk').shape
    have hcu := hlk.own.cellAt k (by omega)
    have hv0 := get_getD (vals.set u rv0) k undef (by rw [hlk.len]; exact hk')
    rw [hv0, hrs] at hcu
    have hnu := Lib.hid (hlk.nums k hk')
    rw [hrs] at hnu
    have hl1 : (g.set u (intoL (row g u) k)).length = g.length := by simp
    have hru : (row (g.set u (intoL (row g u) k)) k).length ≤ 2000 := by
      rw [row_set _ _ _ _ hu]
      split
      · have := intoL_length (row g u) k; have := HR.out u hu; omega
      · have := HR.out k hk; omega
    rw [hl1] at bc
    clear hv0 hrs hlk
    have HNR : Hid ((u : Int) ∉ row (g.set u (intoL (row g u) k)) k) := Lib.hid (by rw [row_set _ _ _ _ hu, if_neg (fun e => huk e.symm)]; exact HN2.out)
    generalize hr1 : row (g.set u (intoL (row g u) k)) k = r1 at hru hcu hnu HNR
    go_upto_region 2 with fail
    go_cut [] (fun wx => ∃ rv, LKD w wx base ob c (linkL g u k) ((vals.set u rv0).set k rv))
    case first =>
      go_region_law (first | (go_simp; go_at_call 134; refine (l1IntoNew_any _ r1 u (by omega) HNR.out _ (hnu.out.below (below_dN (Below.refl _ _) 1))).mono ?_; rintro e w2 ⟨rv, rfl, hn2, hb2⟩; obtain ⟨rvp, rvc, rfl⟩ := owns_shapeR hn2; have hb2' : Below wc.heap.size wc w2 := (below_dN (Below.refl _ _) 1).trans hb2; have hf2 := (ownsRow_below HL.out.own hb2').frozenAt k; have hc2 := hb2'.at' hcu; have hbc2 := hb2'.at' bc))
      all_goals go_wp2
      all_goals go_meet
      all_goals exact ⟨_, by rw [show linkL g u k = (g.set u (intoL (row g u) k)).set k (intoL r1 u) from by unfold linkL; rw [hr1]]; exact HL.out.step hb2' hn2 (by have := intoL_length r1 u; omega) hk'⟩
    case rest =>
      obtain ⟨rv1, hlk⟩ := hcut
      have HL2 := Lib.hid hlk
      obtain ⟨bc, bf, _, _⟩ := hlk.box
      obtain ⟨k2c, k2f, _⟩ := hlk.res
      rw [linkL_length] at bc
      clear hlk
      go_wp2
      refine bodyPost_ret (v := .agg #[.slice (some ⟨ob, 0, none⟩) g.length c]) (by simp [results, Tryd.results120, go_sem, k2c]) rfl ⟨rfl, ⟨_, _, rfl, HL2.out.len, ?_, ⟨fun j hj => ownsRow_setBox (HL2.out.rows.rows j (by rw [linkL_length] at hj ⊢; exact hj)) HL2.out.res (by decide) _, fun i j hi hj => HL2.out.rows.dis i j (by rw [linkL_length] at hi ⊢; exact hi) (by rw [linkL_length] at hj ⊢; exact hj)⟩⟩, ?_⟩
      · exact ownsRow_setBox (by have := HL2.out.own; rw [linkL_length] at this ⊢; exact this) HL2.out.res (by decide) _
      · have hlt' := HL2.out.lt
        refine ⟨HL2.out.grown.os, HL2.out.grown.tape, HL2.out.grown.output, by have := HL2.out.grown.size; simpa [World.setCell] using this, fun b hb hne => ?_⟩
        rw [Below.heap_setCell _ _ _ _ (by show b ≠ w.heap.size + 1; omega)]
        exact HL2.out.grown.block b hb hne

end Go.Proofs.YtjdlmjmhlbpooaaDoor
