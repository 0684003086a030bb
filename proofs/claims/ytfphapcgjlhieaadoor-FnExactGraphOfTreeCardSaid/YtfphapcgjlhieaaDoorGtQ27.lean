/- Walks: how the reference says that a vertex may be pruned. -/
import Derived.Test.YtfphapcgjlhieaaDoorGtQ24
import Derived.Test.YtfphapcgjlhieaaDoorGtQ26
import Derived.Test.YtfphapcgjlhieaaDoorGtQ11
import Derived.Deep.RegionHeld3
import Derived.Deep.DeepCutAuto
import Derived.Test.YtfphapcgjlhieaaDoorGtQ8
import Derived.Test.YtfphapcgjlhieaaDoorGtQ25
import Derived.Deep.RegionWith
import Derived.Test.YtfphapcgjlhieaaDoorGtQ12
import Derived.Deep.RegionLaw
namespace Go.Proofs.YtfphapcgjlhieaaDoor
open Go.RowKit

theorem owns_shapeA {w : World} {base : Nat} {E : TypeId} {size n : Nat} {v : Value} {xs : List Value} (h : w.ownsRow base E size v n xs) : ∃ p c, v = .slice p n c := by
  rcases h.2 with ⟨rfl, h0⟩ | ⟨b, c, _, rfl, _⟩
  · exact ⟨none, 0, by rw [h0]⟩
  · exact ⟨_, _, rfl⟩

def nearT (g : List (List Int)) (L : List Int) (k : Nat) (b : Int) (t : Nat) : List Int := ((row g k).take t).filter fun x => decide (x ≠ b ∧ x ∈ L)
theorem nearT_succ {g : List (List Int)} {L : List Int} {k : Nat} {b : Int} {t : Nat} (h : t < (row g k).length) :
    nearT g L k b (t + 1) = if (row g k)[t] ≠ b ∧ (row g k)[t] ∈ L then nearT g L k b t ++ [(row g k)[t]] else nearT g L k b t := by
  unfold nearT
  rw [take_snoc _ t h, List.filter_append]
  split
  · rename_i hc; rw [List.filter_cons_of_pos (by simpa using hc)]; rfl
  · rename_i hc; rw [List.filter_cons_of_neg (by simpa using hc)]; simp
theorem nearT_len (g : List (List Int)) (L : List Int) (k : Nat) (b : Int) (t : Nat) : (nearT g L k b t).length ≤ (row g k).length :=
  Nat.le_trans (List.length_filter_le _ _) (by rw [List.length_take]; omega)
theorem nearT_end (g : List (List Int)) (L : List Int) (k : Nat) (b : Int) : nearT g L k b (row g k).length = nearB g L k b := by
  unfold nearT nearB; rw [List.take_length]

end Go.Proofs.YtfphapcgjlhieaaDoor

/- Walk: the reference says whether a vertex may be pruned so. -/
namespace Go.Proofs.YtfphapcgjlhieaaDoor
open Go.RowKit

theorem cells3 (w : World) (a b c : Value) (T : TypeId) : (w.alloc (.cells #[a, b, c] T)).cell? ⟨w.heap.size, 0, none⟩ = some a ∧ (w.alloc (.cells #[a, b, c] T)).cell? ⟨w.heap.size, 1, none⟩ = some b ∧ (w.alloc (.cells #[a, b, c] T)).cell? ⟨w.heap.size, 2, none⟩ = some c := by
  have := heap_alloc_new w (.cells #[a, b, c] T)
  refine ⟨?_, ?_, ?_⟩ <;> (unfold World.cell?; rw [this]; rfl)

theorem nearB_16 {g : List (List Int)} (hok : GOk g) {L : List Int} {v : Nat} (hv : v < g.length) (b : Int) : (nearB g L v b).length ≤ 16 :=
  Nat.le_trans (nearB_len g L v b) (gOk_row_le hok v hv)

theorem goP_one {g : List (List Int)} {L : List Int} {v : Nat} (hL : ∀ x ∈ L, 0 ≤ x) : GoP g L v (-1) 1 ↔ (nearB g L v (-1)).length = 0 := by
  rw [nearB_nil]
  constructor
  · rintro (⟨_, _, h⟩ | ⟨h, _⟩)
    · intro x hx hr
      rw [Int.toNat_natCast] at h
      exact absurd hr (h x hx)
    · have := hL _ h; omega
  · intro h
    refine .inl ⟨rfl, rfl, fun x hx hr => ?_⟩
    rw [Int.toNat_natCast] at hr
    have := h x hx hr
    have := hL x hx
    omega
theorem goP_two {g : List (List Int)} (hok : GOk g) {L : List Int} {v b : Nat} (hv : v < g.length) (hb : (b : Int) ∈ L) (hvb : b ≠ v) :
    GoP g L v b 2 ↔ (b : Int) ∈ row g v ∧ (nearB g L v b).length = 0 := by
  rw [nearB_nil]
  constructor
  · rintro (⟨h, _⟩ | ⟨_, _, h⟩)
    · omega
    · rcases h with ⟨_, h⟩ | ⟨h, _⟩ | ⟨h, _⟩
      · simp only [Int.toNat_natCast] at h
        exact ⟨(h _ hb).2 rfl, fun x hx hr => (h x hx).1 hr⟩
      · omega
      · omega
  · rintro ⟨h1, h2⟩
    refine .inr ⟨hb, by omega, .inl ⟨rfl, fun x hx => ?_⟩⟩
    rw [Int.toNat_natCast]
    exact ⟨fun hr => h2 x hx hr, fun e => by subst e; exact h1⟩
theorem goP_three {g : List (List Int)} (hok : GOk g) {L : List Int} {v b : Nat} (hv : v < g.length) (hbl : b < g.length) (hvL : (v : Int) ∈ L) (hb : (b : Int) ∈ L) (hvb : b ≠ v) :
    GoP g L v b 3 ↔ (b : Int) ∉ row g v ∧ nearB g L v b = nearB g L b v := by
  rw [nearB_same hok hv hbl hvL hb (fun e => hvb e.symm)]
  constructor
  · rintro (⟨h, _⟩ | ⟨_, _, h⟩)
    · omega
    · rcases h with ⟨h, _⟩ | ⟨_, h⟩ | ⟨h, _⟩
      · omega
      · simpa only [Int.toNat_natCast] using h
      · omega
  · intro h
    exact .inr ⟨hb, by omega, .inr (.inl ⟨rfl, by simpa only [Int.toNat_natCast] using h⟩)⟩
theorem goP_four {g : List (List Int)} (hok : GOk g) {L : List Int} {v b : Nat} (hv : v < g.length) (hbl : b < g.length) (hvL : (v : Int) ∈ L) (hb : (b : Int) ∈ L) (hvb : b ≠ v) :
    GoP g L v b 4 ↔ (b : Int) ∈ row g v ∧ nearB g L v b = nearB g L b v := by
  rw [nearB_same hok hv hbl hvL hb (fun e => hvb e.symm)]
  constructor
  · rintro (⟨h, _⟩ | ⟨_, _, h⟩)
    · omega
    · rcases h with ⟨h, _⟩ | ⟨h, _⟩ | ⟨_, h⟩
      · omega
      · omega
      · simpa only [Int.toNat_natCast] using h
  · intro h
    exact .inr ⟨hb, by omega, .inr (.inr ⟨rfl, by simpa only [Int.toNat_natCast] using h⟩)⟩
theorem goP_self {g : List (List Int)} {L : List Int} {v k : Int} (hk : 2 ≤ k) : ¬ GoP g L v v k := by
  rintro (⟨h, _⟩ | ⟨_, h, _⟩)
  · omega
  · exact h rfl

end Go.Proofs.YtfphapcgjlhieaaDoor

/- Walks: two vertices made no neighbours; the program's edges. -/
namespace Go.Proofs.YtfphapcgjlhieaaDoor
open Go.RowKit

end Go.Proofs.YtfphapcgjlhieaaDoor

/- Walks: linking two vertices in a graph that is the callee's own. -/
namespace Go.Proofs.YtfphapcgjlhieaaDoor
open Go.RowKit

theorem get_getD {α : Type} (l : List α) (k : Nat) (d : α) (h : k < l.length) : l[k]? = some (l.getD k d) := by simp [h]

structure LK (w wr : World) (base ob c : Nat) (g : List (List Int)) (vals : List Value) : Prop where
  len : vals.length = g.length
  own : wr.ownsRow base 52 1 (.slice (some ⟨ob, 0, none⟩) g.length c) g.length vals
  rows : ∀ j, j < g.length → Nums wr 2 .i64 (vals.getD j undef) (row g j)
  box : Box wr w.heap.size 26 (.slice (some ⟨ob, 0, none⟩) g.length c)
  res : Box wr (w.heap.size + 1) 26 (.slice none 0 0)
  grown : w.grownBy wr (some ob)
  lt : ob < w.heap.size

theorem LK.step {w wr w2 : World} {base ob c : Nat} {g : List (List Int)} {vals : List Value} (h : LK w wr base ob c g vals) (hb : Below wr.heap.size wr w2) {rv : Value} {s : List Int} (hn : Nums w2 2 .i64 rv s) {u : Nat} (hu : u < g.length) :
    LK w (w2.setCell ⟨ob, u, none⟩ rv) base ob c (g.set u s) (vals.set u rv) := by
  have ho := ownsRow_below h.own hb
  obtain ⟨ho2, hg2⟩ := ho.stored u rv
  have hl := h.lt
  refine ⟨by simp [h.len], by rw [List.length_set]; exact ho2, fun j hj => ?_, ?_, ?_, grown_trans (grown_trans h.grown (grown_of_below hb _)) hg2, hl⟩
  · rw [List.length_set] at hj
    rw [row_set _ _ _ _ hu]
    by_cases e : j = u
    · subst e
      rw [if_pos rfl]
      have : (vals.set j rv).getD j undef = rv := by simp [h.len, hj]
      rw [this]
      exact hn.other ho hg2 (by decide)
    · rw [if_neg e]
      have : (vals.set u rv).getD j undef = vals.getD j undef := by simp [show ¬ u = j from fun q => e q.symm]
      rw [this]
      exact ((h.rows j hj).below hb).other ho hg2 (by decide)
  · rw [List.length_set]
    exact (h.box.keep hb).setOther (by show w.heap.size ≠ ob; omega) _
  · exact (h.res.keep hb).setOther (by show w.heap.size + 1 ≠ ob; omega) _

set_option maxRecDepth 100000 in
set_option maxHeartbeats 4000000 in
theorem l1Link_any (p : Option Addr) (c : Nat) (g : List (List Int)) (y z : Int) (u k base : Nat) (hy : y = u) (hz : z = k) (hu : u < g.length) (hk : k < g.length) (hr : ∀ j, j < g.length → (row g j).length ≤ 1000) (w : World)
    (hs : SG w base (.agg #[.slice p g.length c]) g) :
    Calls Tryd.prog 126 #[.agg #[.slice p g.length c], .int .i64 y, .int .i64 z] w fun e w' => e = .returned (.agg #[.slice p g.length c]) ∧ SG w' base (.agg #[.slice p g.length c]) (linkL g u k) ∧ w.grownBy w' (Value.slice p g.length c).ownBlock := by
  subst hy; subst hz
  obtain ⟨_, vals, h1, hl, ho, hrows⟩ := hs
  cases h1
  obtain ⟨ob, rfl⟩ : ∃ ob, p = some ⟨ob, 0, none⟩ := by
    rcases ho.2 with ⟨_, h0⟩ | ⟨b, cc, _, h1, _⟩
    · omega
    · simp only [Value.slice.injEq] at h1
      exact ⟨b, h1.1⟩
  have hlt := (ho.lt ob rfl).2
  have hbb := below_alloc2 w (.cells #[.slice (some ⟨ob, 0, none⟩) g.length c] 26) (.cells #[.slice none 0 0] 26)
  have START : Hid (LK w ((w.alloc (.cells #[.slice (some ⟨ob, 0, none⟩) g.length c] 26)).alloc (.cells #[.slice none 0 0] 26)) base ob c g vals) := Lib.hid
    ⟨hl, ownsRow_below ho hbb, fun j hj => (hrows j hj).below hbb, (Box.new _ _ _).alloc _, by have := Box.new (w.alloc (.cells #[.slice (some ⟨ob, 0, none⟩) g.length c] 26)) (.slice none 0 0) 26; rw [size_alloc] at this; exact this, grown_of_below hbb _, hlt⟩
  have HR := Lib.hid hr
  clear hl ho hrows hbb hr
  go_enter Tryd.func126, Tryd.ntmps126
  go_upto_region 1 with fail
  generalize hW : (w.alloc (.cells #[.slice (some ⟨ob, 0, none⟩) g.length c] 26)).alloc (.cells #[.slice none 0 0] 26) = W at *
  clear hW
  obtain ⟨bc, bf, _, _⟩ := START.out.box
  obtain ⟨rp, rc, hrs, _⟩ := (START.out.rows u hu).shape
  have hcu := START.out.own.cellAt u (by omega)
  have hv0 := get_getD vals u undef (by rw [START.out.len]; exact hu)
  rw [hv0, hrs] at hcu
  have hnu := Lib.hid (START.out.rows u hu)
  rw [hrs] at hnu
  have hru := HR.out u hu
  clear hv0 hrs
  go_cut [] (fun wx => ∃ rv, LK w wx base ob c (g.set u (intoL (row g u) k)) (vals.set u rv))
  case first =>
    go_region_law (first | (go_simp; go_at_call 113; refine (l1Into_any _ (row g u) k (by omega) _ (hnu.out.below (below_dN (Below.refl _ _) 1))).mono ?_; rintro e w2 ⟨rv, rfl, hn2, hb2⟩; obtain ⟨rvp, rvc, rfl, _⟩ := hn2.shape; have hb2' : Below W.heap.size W w2 := (below_dN (Below.refl _ _) 1).trans hb2; have hf2 := (ownsRow_below START.out.own hb2').frozenAt u; have hc2 := hb2'.at' hcu; have hbc2 := hb2'.at' bc))
    all_goals go_wp2
    all_goals go_meet
    all_goals exact ⟨_, START.out.step hb2' hn2 hu⟩
  case rest =>
    obtain ⟨rv0, hlk⟩ := hcut
    have HL := Lib.hid hlk
    have hk' : k < (g.set u (intoL (row g u) k)).length := by simpa using hk
    obtain ⟨bc, bf, _, _⟩ := hlk.box
    obtain ⟨rp, rc, hrs, _⟩ := (hlk.rows k hk').shape
    have hcu := hlk.own.cellAt k (by omega)
    have hv0 := get_getD (vals.set u rv0) k undef (by rw [hlk.len]; exact hk')
    rw [hv0, hrs] at hcu
    have hnu := Lib.hid (hlk.rows k hk')
    rw [hrs] at hnu
    have hl1 : (g.set u (intoL (row g u) k)).length = g.length := by simp
    have hru : (row (g.set u (intoL (row g u) k)) k).length ≤ 2000 := by
      rw [row_set _ _ _ _ hu]
      split
      · have := intoL_length (row g u) k; have := HR.out u hu; omega
      · have := HR.out k hk; omega
    rw [hl1] at bc
    clear hv0 hrs hlk
    generalize hr1 : row (g.set u (intoL (row g u) k)) k = r1 at hru hcu hnu
    go_upto_region 2 with fail
    go_cut [] (fun wx => ∃ rv, LK w wx base ob c (linkL g u k) ((vals.set u rv0).set k rv))
    case first =>
      go_region_law (first | (go_simp; go_at_call 113; refine (l1Into_any _ r1 u (by omega) _ (hnu.out.below (below_dN (Below.refl _ _) 1))).mono ?_; rintro e w2 ⟨rv, rfl, hn2, hb2⟩; obtain ⟨rvp, rvc, rfl, _⟩ := hn2.shape; have hb2' : Below wc.heap.size wc w2 := (below_dN (Below.refl _ _) 1).trans hb2; have hf2 := (ownsRow_below HL.out.own hb2').frozenAt k; have hc2 := hb2'.at' hcu; have hbc2 := hb2'.at' bc))
      all_goals go_wp2
      all_goals go_meet
      all_goals exact ⟨_, by rw [show linkL g u k = (g.set u (intoL (row g u) k)).set k (intoL r1 u) from by unfold linkL; rw [hr1]]; exact HL.out.step hb2' hn2 hk'⟩
    case rest =>
      obtain ⟨rv1, hlk⟩ := hcut
      have HL2 := Lib.hid hlk
      obtain ⟨bc, bf, _, _⟩ := hlk.box
      obtain ⟨k2c, k2f, _⟩ := hlk.res
      rw [linkL_length] at bc
      clear hlk
      go_wp2
      refine bodyPost_ret (v := .agg #[.slice (some ⟨ob, 0, none⟩) g.length c]) (by simp [results, Tryd.results126, go_sem, k2c]) rfl ⟨rfl, ⟨_, _, rfl, HL2.out.len, ?_, fun j hj => ?_⟩, ?_⟩
      · exact ownsRow_setBox (by have := HL2.out.own; rw [linkL_length] at this ⊢; exact this) HL2.out.res (by decide) _
      · exact (HL2.out.rows j hj).setBox HL2.out.res (by decide) _
      · have hlt' := HL2.out.lt
        refine ⟨HL2.out.grown.os, HL2.out.grown.tape, HL2.out.grown.output, by have := HL2.out.grown.size; simpa [World.setCell] using this, fun b hb hne => ?_⟩
        rw [Below.heap_setCell _ _ _ _ (by show b ≠ w.heap.size + 1; omega)]
        exact HL2.out.grown.block b hb hne

end Go.Proofs.YtfphapcgjlhieaaDoor
