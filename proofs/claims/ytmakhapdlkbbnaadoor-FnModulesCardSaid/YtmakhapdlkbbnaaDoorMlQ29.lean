/- Walks: ModulesOf of the reference. -/
import Derived.Test.YtmakhapdlkbbnaaDoorMlQ18
import Derived.Test.YtmakhapdlkbbnaaDoorMlQ28
import Derived.Test.YtmakhapdlkbbnaaDoorMlQ23
import Derived.Deep.RegionLaw
namespace Go.Proofs.YtmakhapdlkbbnaaDoor
open Go.RowKit

theorem md_rowsS {g : List (List Int)} {L : List (List Nat)} (_h8 : g.length ≤ 8) (h : MdOn (ModN g) (2 ^ g.length) L) (j : Nat) : (row (L.map natInts) j).length ≤ 32 := by
  by_cases hj : j < L.length
  · have e : row (L.map natInts) j = natInts L[j] := by simp [row, hj]
    rw [e, natInts_length]
    obtain ⟨s, _, _, _, h4⟩ := (h.mem _).1 (List.getElem_mem hj)
    rw [h4]
    exact bitsOf_length s
  · simp [row, hj]
theorem md_put_sg {w w' : World} {base n : Nat} {u' sv : Value} {L : List (List Nat)} {set : List Nat} {vals : List Value} {j : Nat} (hl : vals.length = L.length) (hr : ∀ i, i < L.length → Nums w 2 .i64 (vals.getD i undef) (row (L.map natInts) i))
    (hs : Nums w 2 .i64 sv (natInts set)) (hb : Below w.heap.size w w') (hj : j ≤ L.length) (hn : n = L.length + 1) (ho : w'.ownsRow base 36 1 u' n (vals.take j ++ [sv] ++ vals.drop j)) :
    SG w' base (.agg #[u']) ((L.take j ++ [set] ++ L.drop j).map natInts) := by
  have hlen : (L.take j ++ [set] ++ L.drop j).length = L.length + 1 := by simp; omega
  refine ⟨u', _, rfl, ?_, by rw [List.length_map, hlen, ← hn]; exact ho, fun i hi => ?_⟩
  · rw [List.length_map, hlen]; simp; omega
  · rw [List.length_map, hlen] at hi
    rw [row_nat (by rw [hlen]; exact hi)]
    have hlt : (vals.take j).length = j := by rw [List.length_take]; omega
    have hlL : (L.take j).length = j := by rw [List.length_take]; omega
    rcases Nat.lt_trichotomy i j with h | h | h
    · have e : (vals.take j ++ [sv] ++ vals.drop j).getD i undef = vals.getD i undef := by
        rw [List.append_assoc, List.getD_eq_getElem?_getD, List.getD_eq_getElem?_getD, List.getElem?_append_left (by omega), List.getElem?_take_of_lt h]
      have e2 : (L.take j ++ [set] ++ L.drop j)[i]'(by omega) = L[i]'(by omega) := by
        rw [List.getElem_append_left (by simp; omega), List.getElem_append_left (by omega), List.getElem_take]
      rw [e, e2, ← row_nat (by omega)]
      exact (hr i (by omega)).below hb
    · subst h
      have e : (vals.take i ++ [sv] ++ vals.drop i).getD i undef = sv := by
        rw [List.append_assoc, List.getD_eq_getElem?_getD, List.getElem?_append_right (by omega), hlt]; simp
      have e2 : (L.take i ++ [set] ++ L.drop i)[i]'(by omega) = set := by
        rw [List.getElem_append_left (by simp; omega), List.getElem_append_right (by omega)]; simp
      rw [e, e2]
      exact hs.below hb
    · have e : (vals.take j ++ [sv] ++ vals.drop j).getD i undef = vals.getD (i - 1) undef := by
        rw [List.getD_eq_getElem?_getD, List.getD_eq_getElem?_getD, List.getElem?_append_right (by simp; omega), List.getElem?_drop]
        congr 2
        simp; omega
      have e2 : (L.take j ++ [set] ++ L.drop j)[i]'(by omega) = L[i - 1]'(by omega) := by
        rw [List.getElem_append_right (by simp; omega), List.getElem_drop]
        congr 1
        simp; omega
      rw [e, e2, ← row_nat (by omega)]
      exact (hr (i - 1) (by omega)).below hb
theorem md_take_sl {w : World} {E : TypeId} {v : Value} {a : Option Addr} {n c k : Nat} {vals : List Value} (hk : k ≤ n) (ha : a = none → k = 0) (hv : v = .slice a k c) (h : Sl w E (.slice a n c) n vals) : Sl w E v k (vals.take k) := by
  subst hv
  obtain ⟨p, c', e, h1, hnc, hn, hat⟩ := h
  simp only [Value.slice.injEq] at e
  obtain ⟨rfl, -, rfl⟩ := e
  refine ⟨_, _, rfl, fun e => ⟨ha e, (h1 e).2⟩, by omega, by omega, ?_⟩
  exact hat.take k
theorem md_drop0_sl {w : World} {E : TypeId} {a : Addr} {k m : Nat} {vals : List Value} (hk : vals.length ≤ k) (hm : m = 0) : Sl w E (.slice (some a) 0 0) m (vals.drop k) := by
  subst hm
  rw [List.drop_of_length_le hk]
  exact ⟨_, 0, rfl, (fun e => by cases e), Nat.le_refl _, by omega, .inl rfl⟩
theorem md_drop1_sl {w : World} {E : TypeId} {b o n c k : Nat} {vals : List Value} (hk : k ≤ n) (h : Sl w E (.slice (some ⟨b, o, none⟩) n c) n vals) : Sl w E (.slice (some ⟨b, o + k, none⟩) (n - k) (c - k)) (n - k) (vals.drop k) := by
  obtain ⟨p, c', e, h1, hnc, hn, hat⟩ := h
  simp only [Value.slice.injEq] at e
  obtain ⟨rfl, -, rfl⟩ := e
  exact ⟨_, _, rfl, (fun e => by cases e), by omega, by omega, hat.drop k⟩
end Go.Proofs.YtmakhapdlkbbnaaDoor

/- Walks: linking two vertices in a graph that is the callee's own. -/
namespace Go.Proofs.YtmakhapdlkbbnaaDoor
open Go.RowKit

theorem get_getD {α : Type} (l : List α) (k : Nat) (d : α) (h : k < l.length) : l[k]? = some (l.getD k d) := by simp [h]

structure LK (w wr : World) (base ob c : Nat) (g : List (List Int)) (vals : List Value) : Prop where
  len : vals.length = g.length
  own : wr.ownsRow base 36 1 (.slice (some ⟨ob, 0, none⟩) g.length c) g.length vals
  rows : ∀ j, j < g.length → Nums wr 2 .i64 (vals.getD j undef) (row g j)
  box : Box wr w.heap.size 29 (.slice (some ⟨ob, 0, none⟩) g.length c)
  res : Box wr (w.heap.size + 1) 29 (.slice none 0 0)
  grown : w.grownBy wr (some ob)
  lt : ob < w.heap.size

theorem LK.step {w wr w2 : World} {base ob c : Nat} {g : List (List Int)} {vals : List Value} (h : LK w wr base ob c g vals) (hb : Below wr.heap.size wr w2) {rv : Value} {s : List Int} (hn : Nums w2 2 .i64 rv s) {u : Nat} (hu : u < g.length) :
    LK w (w2.setCell ⟨ob, u, none⟩ rv) base ob c (g.set u s) (vals.set u rv) := by
  have ho := ownsRow_below h.own hb
  obtain ⟨ho2, hg2⟩ := ho.stored u rv
  have hl := h.lt
  refine ⟨by simp [h.len], by rw [List.length_set]; exact ho2, fun j hj => ?_, ?_, ?_, grown_trans (grown_trans h.grown (grown_of_below hb _)) hg2, hl⟩
  · rw [List.length_set] at hj
    rw [row_set _ _ _ _ hu]
    by_cases e : j = u
    · subst e
      rw [if_pos rfl]
      have : (vals.set j rv).getD j undef = rv := by simp [h.len, hj]
      rw [this]
      exact hn.other ho hg2 (by decide)
    · rw [if_neg e]
      have : (vals.set u rv).getD j undef = vals.getD j undef := by simp [show ¬ u = j from fun q => e q.symm]
      rw [this]
      exact ((h.rows j hj).below hb).other ho hg2 (by decide)
  · rw [List.length_set]
    exact (h.box.keep hb).setOther (by show w.heap.size ≠ ob; omega) _
  · exact (h.res.keep hb).setOther (by show w.heap.size + 1 ≠ ob; omega) _

set_option maxRecDepth 100000 in
set_option maxHeartbeats 4000000 in
theorem l1Link_any (p : Option Addr) (c : Nat) (g : List (List Int)) (y z : Int) (u k base : Nat) (hy : y = u) (hz : z = k) (hu : u < g.length) (hk : k < g.length) (hr : ∀ j, j < g.length → (row g j).length ≤ 1000) (w : World)
    (hs : SG w base (.agg #[.slice p g.length c]) g) :
    Calls Tryd.prog 151 #[.agg #[.slice p g.length c], .int .i64 y, .int .i64 z] w fun e w' => e = .returned (.agg #[.slice p g.length c]) ∧ SG w' base (.agg #[.slice p g.length c]) (linkL g u k) ∧ w.grownBy w' (Value.slice p g.length c).ownBlock := by
  subst hy; subst hz
  obtain ⟨_, vals, h1, hl, ho, hrows⟩ := hs
  cases h1
  obtain ⟨ob, rfl⟩ : ∃ ob, p = some ⟨ob, 0, none⟩ := by
    rcases ho.2 with ⟨_, h0⟩ | ⟨b, cc, _, h1, _⟩
    · omega
    · simp only [Value.slice.injEq] at h1
      exact ⟨b, h1.1⟩
  have hlt := (ho.lt ob rfl).2
  have hbb := below_alloc2 w (.cells #[.slice (some ⟨ob, 0, none⟩) g.length c] 29) (.cells #[.slice none 0 0] 29)
  have START : Hid (LK w ((w.alloc (.cells #[.slice (some ⟨ob, 0, none⟩) g.length c] 29)).alloc (.cells #[.slice none 0 0] 29)) base ob c g vals) := Lib.hid
    ⟨hl, ownsRow_below ho hbb, fun j hj => (hrows j hj).below hbb, (Box.new _ _ _).alloc _, by have := Box.new (w.alloc (.cells #[.slice (some ⟨ob, 0, none⟩) g.length c] 29)) (.slice none 0 0) 29; rw [size_alloc] at this; exact this, grown_of_below hbb _, hlt⟩
  have HR := Lib.hid hr
  clear hl ho hrows hbb hr
  go_enter Tryd.func151, Tryd.ntmps151
  go_upto_region 1 with fail
  generalize hW : (w.alloc (.cells #[.slice (some ⟨ob, 0, none⟩) g.length c] 29)).alloc (.cells #[.slice none 0 0] 29) = W at *
  clear hW
  obtain ⟨bc, bf, _, _⟩ := START.out.box
  obtain ⟨rp, rc, hrs, _⟩ := (START.out.rows u hu).shape
  have hcu := START.out.own.cellAt u (by omega)
  have hv0 := get_getD vals u undef (by rw [START.out.len]; exact hu)
  rw [hv0, hrs] at hcu
  have hnu := Lib.hid (START.out.rows u hu)
  rw [hrs] at hnu
  have hru := HR.out u hu
  clear hv0 hrs
  go_cut [] (fun wx => ∃ rv, LK w wx base ob c (g.set u (intoL (row g u) k)) (vals.set u rv))
  case first =>
    go_region_law (first | (go_simp; go_at_call 204; refine (l1Into_any _ (row g u) k (by omega) _ (hnu.out.below (below_dN (Below.refl _ _) 1))).mono ?_; rintro e w2 ⟨rv, rfl, hn2, hb2⟩; obtain ⟨rvp, rvc, rfl, _⟩ := hn2.shape; have hb2' : Below W.heap.size W w2 := (below_dN (Below.refl _ _) 1).trans hb2; have hf2 := (ownsRow_below START.out.own hb2').frozenAt u; have hc2 := hb2'.at' hcu; have hbc2 := hb2'.at' bc))
    all_goals go_wp2
    all_goals go_meet
    all_goals exact ⟨_, START.out.step hb2' hn2 hu⟩
  case rest =>
    obtain ⟨rv0, hlk⟩ := hcut
    have HL := Lib.hid hlk
    have hk' : k < (g.set u (intoL (row g u) k)).length := by simpa using hk
    obtain ⟨bc, bf, _, _⟩ := hlk.box
    obtain ⟨rp, rc, hrs, _⟩ := (hlk.rows k hk').shape
    have hcu := hlk.own.cellAt k (by omega)
    have hv0 := get_getD (vals.set u rv0) k undef (by rw [hlk.len]; exact hk')
    rw [hv0, hrs] at hcu
    have hnu := Lib.hid (hlk.rows k hk')
    rw [hrs] at hnu
    have hl1 : (g.set u (intoL (row g u) k)).length = g.length := by simp
    have hru : (row (g.set u (intoL (row g u) k)) k).length ≤ 2000 := by
      rw [row_set _ _ _ _ hu]
      split
      · have := intoL_length (row g u) k; have := HR.out u hu; omega
      · have := HR.out k hk; omega
    rw [hl1] at bc
    clear hv0 hrs hlk
    generalize hr1 : row (g.set u (intoL (row g u) k)) k = r1 at hru hcu hnu
    go_upto_region 2 with fail
    go_cut [] (fun wx => ∃ rv, LK w wx base ob c (linkL g u k) ((vals.set u rv0).set k rv))
    case first =>
      go_region_law (first | (go_simp; go_at_call 204; refine (l1Into_any _ r1 u (by omega) _ (hnu.out.below (below_dN (Below.refl _ _) 1))).mono ?_; rintro e w2 ⟨rv, rfl, hn2, hb2⟩; obtain ⟨rvp, rvc, rfl, _⟩ := hn2.shape; have hb2' : Below wc.heap.size wc w2 := (below_dN (Below.refl _ _) 1).trans hb2; have hf2 := (ownsRow_below HL.out.own hb2').frozenAt k; have hc2 := hb2'.at' hcu; have hbc2 := hb2'.at' bc))
      all_goals go_wp2
      all_goals go_meet
      all_goals exact ⟨_, by rw [show linkL g u k = (g.set u (intoL (row g u) k)).set k (intoL r1 u) from by unfold linkL; rw [hr1]]; exact HL.out.step hb2' hn2 hk'⟩
    case rest =>
      obtain ⟨rv1, hlk⟩ := hcut
      have HL2 := Lib.hid hlk
      obtain ⟨bc, bf, _, _⟩ := hlk.box
      obtain ⟨k2c, k2f, _⟩ := hlk.res
      rw [linkL_length] at bc
      clear hlk
      go_wp2
      refine bodyPost_ret (v := .agg #[.slice (some ⟨ob, 0, none⟩) g.length c]) (by simp [results, Tryd.results151, go_sem, k2c]) rfl ⟨rfl, ⟨_, _, rfl, HL2.out.len, ?_, fun j hj => ?_⟩, ?_⟩
      · exact ownsRow_setBox (by have := HL2.out.own; rw [linkL_length] at this ⊢; exact this) HL2.out.res (by decide) _
      · exact (HL2.out.rows j hj).setBox HL2.out.res (by decide) _
      · have hlt' := HL2.out.lt
        refine ⟨HL2.out.grown.os, HL2.out.grown.tape, HL2.out.grown.output, by have := HL2.out.grown.size; simpa [World.setCell] using this, fun b hb hne => ?_⟩
        rw [Below.heap_setCell _ _ _ _ (by show b ≠ w.heap.size + 1; omega)]
        exact HL2.out.grown.block b hb hne

end Go.Proofs.YtmakhapdlkbbnaaDoor
