/- Walk: linking two vertices in a graph whose rows are the callee's own, each in a block of its own. -/
import Derived.Test.YtiooindlpinjhaaDoorWlQ13
import Derived.Test.YtiooindlpinjhaaDoorWlQ25
import Derived.Test.YtiooindlpinjhaaDoorWlQ12
import Derived.Deep.RegionLaw
import Derived.Test.YtiooindlpinjhaaDoorWlQ40
namespace Go.Proofs.YtiooindlpinjhaaDoor
open Go.RowKit

structure LKD (w wr : World) (base ob c : Nat) (g : List (List Int)) (vals : List Value) : Prop where
  len : vals.length = g.length
  own : wr.ownsRow base 26 1 (.slice (some ⟨ob, 0, none⟩) g.length c) g.length vals
  rows : Dis wr base g.length vals g
  small : ∀ j, j < g.length → (row g j).length ≤ 100000
  low : base ≤ w.heap.size
  box : Box wr w.heap.size 28 (.slice (some ⟨ob, 0, none⟩) g.length c)
  res : Box wr (w.heap.size + 1) 28 (.slice none 0 0)
  grown : w.grownBy wr (some ob)
  lt : ob < w.heap.size

theorem LKD.nums {w wr : World} {base ob c : Nat} {g : List (List Int)} {vals : List Value} (h : LKD w wr base ob c g vals) (j : Nat) (hj : j < g.length) : Nums wr 2 .i64 (vals.getD j undef) (row g j) :=
  Nums.of_owns (h.rows.rows j hj) rfl (by have := h.small j hj; omega)
/-- A row behind the others is put in the place of one. -/
theorem Dis.put {wr w2 W : World} {base u : Nat} {g : List (List Int)} {vals : List Value} {rv : Value} {s : List Int} (h : Dis wr base g.length vals g) (hl : vals.length = g.length) (hu : u < g.length) (hb : Below wr.heap.size wr w2) (hB : base ≤ wr.heap.size)
    (hn : w2.ownsRow wr.heap.size 2 1 rv s.length (s.map (Value.int .i64)))
    (hW : ∀ base size n v (xs : List Value), w2.ownsRow base 2 size v n xs → W.ownsRow base 2 size v n xs) : Dis W base g.length (vals.set u rv) (g.set u s) := by
  have e1 : ∀ j, j ≠ u → (vals.set u rv).getD j undef = vals.getD j undef := fun j hj => by simp [show ¬ u = j from fun q => hj q.symm]
  have e2 : (vals.set u rv).getD u undef = rv := by simp [hl, hu]
  refine ⟨fun j hj => ?_, fun i j hi hj hne b hbi => ?_⟩
  · rw [row_set _ _ _ _ hu]
    by_cases e : j = u
    · subst e
      rw [if_pos rfl, e2]
      exact hW _ _ _ _ _ (ownsRow_base hn hB)
    · rw [if_neg e, e1 j e]
      exact hW _ _ _ _ _ (ownsRow_below (h.rows j hj) hb)
  · by_cases ei : i = u
    · subst ei
      rw [e2] at hbi
      rw [e1 j (fun e => hne e.symm)]
      intro hc
      have := (hn.lt b hbi).1
      have := ((h.rows j hj).lt b hc).2
      omega
    · rw [e1 i ei] at hbi
      by_cases ej : j = u
      · subst ej
        rw [e2]
        intro hc
        have := (hn.lt b hc).1
        have := ((h.rows i hi).lt b hbi).2
        omega
      · rw [e1 j ej]
        exact h.dis i j hi hj hne b hbi
theorem LKD.step {w wr w2 : World} {base ob c : Nat} {g : List (List Int)} {vals : List Value} (h : LKD w wr base ob c g vals) (hb : Below wr.heap.size wr w2) {rv : Value} {s : List Int} (hn : w2.ownsRow wr.heap.size 2 1 rv s.length (s.map (Value.int .i64))) (hs : s.length ≤ 100000) {u : Nat} (hu : u < g.length) :
    LKD w (w2.setCell ⟨ob, u, none⟩ rv) base ob c (g.set u s) (vals.set u rv) := by
  have ho := ownsRow_below h.own hb
  obtain ⟨ho2, hg2⟩ := ho.stored u rv
  have hl := h.lt
  refine ⟨by simp [h.len], by rw [List.length_set]; exact ho2, ?_, fun j hj => ?_, h.low, ?_, ?_, grown_trans (grown_trans h.grown (grown_of_below hb _)) hg2, hl⟩
  · rw [List.length_set]
    exact h.rows.put h.len hu hb (Nat.le_trans h.low h.grown.size) hn fun base size n v xs hx => ownsRow_other hx ho hg2 (by decide)
  · rw [List.length_set] at hj
    rw [row_set _ _ _ _ hu]
    split
    · exact hs
    · exact h.small j hj
  · rw [List.length_set]
    exact (h.box.keep hb).setOther (by show w.heap.size ≠ ob; omega) _
  · exact (h.res.keep hb).setOther (by show w.heap.size + 1 ≠ ob; omega) _

set_option maxRecDepth 100000 in
set_option maxHeartbeats 4000000 in
theorem l1LinkD_any (p : Option Addr) (c : Nat) (g : List (List Int)) (y z : Int) (u k base : Nat) (hy : y = u) (hz : z = k) (hu : u < g.length) (hk : k < g.length) (huk : u ≠ k) (hn1 : (k : Int) ∉ row g u) (hn2 : (u : Int) ∉ row g k) (hr : ∀ j, j < g.length → (row g j).length ≤ 1000) (w : World)
    (hs : DG w base (.agg #[.slice p g.length c]) g) :
    Calls Tryd.prog 106 #[.agg #[.slice p g.length c], .int .i64 y, .int .i64 z] w fun e w' => e = .returned (.agg #[.slice p g.length c]) ∧ DG w' base (.agg #[.slice p g.length c]) (linkL g u k) ∧ w.grownBy w' (Value.slice p g.length c).ownBlock := by
  subst hy; subst hz
  obtain ⟨_, vals, h1, hl, ho, hrows⟩ := hs
  cases h1
  obtain ⟨ob, rfl⟩ : ∃ ob, p = some ⟨ob, 0, none⟩ := by
    rcases ho.2 with ⟨_, h0⟩ | ⟨b, cc, _, h1, _⟩
    · omega
    · simp only [Value.slice.injEq] at h1
      exact ⟨b, h1.1⟩
  have hlt := (ho.lt ob rfl).2
  have hbb := below_alloc2 w (.cells #[.slice (some ⟨ob, 0, none⟩) g.length c] 28) (.cells #[.slice none 0 0] 28)
  have START : Hid (LKD w ((w.alloc (.cells #[.slice (some ⟨ob, 0, none⟩) g.length c] 28)).alloc (.cells #[.slice none 0 0] 28)) base ob c g vals) := Lib.hid
    ⟨hl, ownsRow_below ho hbb, ⟨fun j hj => ownsRow_below (hrows.rows j hj) hbb, hrows.dis⟩, fun j hj => by have := hr j hj; omega, (by have := ho.lt ob rfl; omega), (Box.new _ _ _).alloc _, by have := Box.new (w.alloc (.cells #[.slice (some ⟨ob, 0, none⟩) g.length c] 28)) (.slice none 0 0) 28; rw [size_alloc] at this; exact this, grown_of_below hbb _, hlt⟩
  have HR := Lib.hid hr
  have HN1 := Lib.hid hn1
  have HN2 := Lib.hid hn2
  clear hl ho hrows hbb hr hn1 hn2
  go_enter Tryd.func106, Tryd.ntmps106
  go_upto_region 1 with fail
  generalize hW : (w.alloc (.cells #[.slice (some ⟨ob, 0, none⟩) g.length c] 28)).alloc (.cells #[.slice none 0 0] 28) = W at *
  clear hW
  obtain ⟨bc, bf, _, _⟩ := START.out.box
  obtain ⟨rp, rc, hrs, _⟩ := (START.out.nums u hu).shape
  have hcu := START.out.own.cellAt u (by omega)
  have hv0 := get_getD vals u undef (by rw [START.out.len]; exact hu)
  rw [hv0, hrs] at hcu
  have hnu := Lib.hid (START.out.nums u hu)
  rw [hrs] at hnu
  have hru := HR.out u hu
  clear hv0 hrs
  go_cut [] (fun wx => ∃ rv, LKD w wx base ob c (g.set u (intoL (row g u) k)) (vals.set u rv))
  case first =>
    go_region_law (first | (go_simp; go_at_call 149; refine (l1IntoNew_any _ (row g u) k (by omega) HN1.out _ (hnu.out.below (below_dN (Below.refl _ _) 1))).mono ?_; rintro e w2 ⟨rv, rfl, hn2, hb2⟩; obtain ⟨rvp, rvc, rfl⟩ := owns_shapeR hn2; have hb2' : Below W.heap.size W w2 := (below_dN (Below.refl _ _) 1).trans hb2; have hf2 := (ownsRow_below START.out.own hb2').frozenAt u; have hc2 := hb2'.at' hcu; have hbc2 := hb2'.at' bc))
    all_goals go_wp2
    all_goals go_meet
    all_goals exact ⟨_, START.out.step hb2' hn2 (by have := intoL_length (row g u) k; omega) hu⟩
  case rest =>
    obtain ⟨rv0, hlk⟩ := hcut
    have HL := Lib.hid hlk
    have hk' : k < (g.set u (intoL (row g u) k)).length := by simpa using hk
    obtain ⟨bc, bf, _, _⟩ := hlk.box
    obtain ⟨rp, rc, hrs, _⟩ := (hlk.nums k hk').shape
    have hcu := hlk.own.cellAt k (by omega)
    have hv0 := get_getD (vals.set u rv0) k undef (by rw [hlk.len]; exact hk')
    rw [hv0, hrs] at hcu
    have hnu := Lib.hid (hlk.nums k hk')
    rw [hrs] at hnu
    have hl1 : (g.set u (intoL (row g u) k)).length = g.length := by simp
    have hru : (row (g.set u (intoL (row g u) k)) k).length ≤ 2000 := by
      rw [row_set _ _ _ _ hu]
      split
      · have := intoL_length (row g u) k; have := HR.out u hu; omega
      · have := HR.out k hk; omega
    rw [hl1] at bc
    clear hv0 hrs hlk
    have HNR : Hid ((u : Int) ∉ row (g.set u (intoL (row g u) k)) k) := Lib.hid (by rw [row_set _ _ _ _ hu, if_neg (fun e => huk e.symm)]; exact HN2.out)
    generalize hr1 : row (g.set u (intoL (row g u) k)) k = r1 at hru hcu hnu HNR
    go_upto_region 2 with fail
    go_cut [] (fun wx => ∃ rv, LKD w wx base ob c (linkL g u k) ((vals.set u rv0).set k rv))
    case first =>
      go_region_law (first | (go_simp; go_at_call 149; refine (l1IntoNew_any _ r1 u (by omega) HNR.out _ (hnu.out.below (below_dN (Below.refl _ _) 1))).mono ?_; rintro e w2 ⟨rv, rfl, hn2, hb2⟩; obtain ⟨rvp, rvc, rfl⟩ := owns_shapeR hn2; have hb2' : Below wc.heap.size wc w2 := (below_dN (Below.refl _ _) 1).trans hb2; have hf2 := (ownsRow_below HL.out.own hb2').frozenAt k; have hc2 := hb2'.at' hcu; have hbc2 := hb2'.at' bc))
      all_goals go_wp2
      all_goals go_meet
      all_goals exact ⟨_, by rw [show linkL g u k = (g.set u (intoL (row g u) k)).set k (intoL r1 u) from by unfold linkL; rw [hr1]]; exact HL.out.step hb2' hn2 (by have := intoL_length r1 u; omega) hk'⟩
    case rest =>
      obtain ⟨rv1, hlk⟩ := hcut
      have HL2 := Lib.hid hlk
      obtain ⟨bc, bf, _, _⟩ := hlk.box
      obtain ⟨k2c, k2f, _⟩ := hlk.res
      rw [linkL_length] at bc
      clear hlk
      go_wp2
      refine bodyPost_ret (v := .agg #[.slice (some ⟨ob, 0, none⟩) g.length c]) (by simp [results, Tryd.results106, go_sem, k2c]) rfl ⟨rfl, ⟨_, _, rfl, HL2.out.len, ?_, ⟨fun j hj => ownsRow_setBox (HL2.out.rows.rows j (by rw [linkL_length] at hj ⊢; exact hj)) HL2.out.res (by decide) _, fun i j hi hj => HL2.out.rows.dis i j (by rw [linkL_length] at hi ⊢; exact hi) (by rw [linkL_length] at hj ⊢; exact hj)⟩⟩, ?_⟩
      · exact ownsRow_setBox (by have := HL2.out.own; rw [linkL_length] at this ⊢; exact this) HL2.out.res (by decide) _
      · have hlt' := HL2.out.lt
        refine ⟨HL2.out.grown.os, HL2.out.grown.tape, HL2.out.grown.output, by have := HL2.out.grown.size; simpa [World.setCell] using this, fun b hb hne => ?_⟩
        rw [Below.heap_setCell _ _ _ _ (by show b ≠ w.heap.size + 1; omega)]
        exact HL2.out.grown.block b hb hne

end Go.Proofs.YtiooindlpinjhaaDoor

/- Walks: the reference's draws: a cursor made (l1New), numbers (l1Odd, l1Min, l1Num). -/
namespace Go.Proofs.YtiooindlpinjhaaDoor
open Go.RowKit

theorem cur_far {w0 w : World} {cb : Nat} {bs : List Int} (h : Cur w0 w cb bs) {cur : Array Value} {E : TypeId} {fz : Nat × Nat} {b : Nat} (hE : E ≠ 152) (hb : w.heap[b]? = some (.cells cur E fz)) : b ≠ cb := by
  obtain ⟨bv, i, z, h1, _⟩ := h.ex
  intro e
  subst e
  rw [h1.blk] at hb
  simp only [Option.some.injEq, Obj.cells.injEq] at hb
  exact hE hb.2.1.symm
theorem Sl.cured {w0 w w' : World} {cb : Nat} {bs : List Int} (h : Cur w0 w cb bs) (hg : w.grownBy w' (some cb)) {E : TypeId} (hE : E ≠ 152) {v : Value} {n : Nat} {vals : List Value} (hs : Sl w E v n vals) : Sl w' E v n vals :=
  hs.keep fun b cur fz hb => hg.block b (Array.getElem?_eq_some_iff.1 hb).1 (fun e => cur_far h hE hb (by simpa using e))
theorem ownsRow_cured {w0 w w' : World} {cb : Nat} {bs : List Int} (h : Cur w0 w cb bs) (hg : w.grownBy w' (some cb)) {E : TypeId} (hE : E ≠ 152) {base size n : Nat} {v : Value} {xs : List Value} (ho : w.ownsRow base E size v n xs) : w'.ownsRow base E size v n xs :=
  ho.kept hg (by
    rcases ho.2 with ⟨rfl, _⟩ | ⟨g, cap, cur, rfl, _, hgg, _⟩
    · exact .inl rfl
    · exact .inr fun e => cur_far h hE hgg (by simpa [Value.ownBlock] using e))
theorem Box.cured {w0 w w' : World} {cb : Nat} {bs : List Int} (h : Cur w0 w cb bs) (hg : w.grownBy w' (some cb)) {T : TypeId} (hT : T ≠ 152) {b : Nat} {v : Value} (hb : Box w b T v) : Box w' b T v :=
  hb.grown hg (fun e => cur_far h hT hb.blk (by simpa using e))
theorem DG.cured {w0 w w' : World} {cb : Nat} {bs : List Int} (h : Cur w0 w cb bs) (hg : w.grownBy w' (some cb)) {base : Nat} {v : Value} {g : List (List Int)} (hs : DG w base v g) : DG w' base v g := by
  obtain ⟨u, vals, h1, h2, h3, h4⟩ := hs
  exact ⟨u, vals, h1, h2, ownsRow_cured h hg (by decide) h3, ⟨fun j hj => ownsRow_cured h hg (by decide) (h4.rows j hj), h4.dis⟩⟩

set_option maxRecDepth 100000 in
set_option maxHeartbeats 4000000 in
theorem l1New_any (v : Value) (bs : List Int) (hl : bs.length ≤ 4096) (w : World) (ha : ArgB w v bs) :
    Calls Tryd.prog 144 #[v] w fun e w' => ∃ cb : Nat, e = .returned (.pointer (some ⟨cb, 0, none⟩)) ∧ Cur w w' cb bs ∧ Below w.heap.size w w' := by
  obtain ⟨p, c, e, _⟩ := id ha
  subst e
  have HA := Lib.hid ha
  clear ha
  go_enter Tryd.func144, Tryd.ntmps144
  go_wp2
  go_loopw [3, 4] (fun h i wr => ∃ (k : Nat) (z : Int), i = .int .i64 k ∧ h = .int .i64 z ∧ k ≤ bs.length ∧ wr = w) (fun _ i _ => bs.length - (intOf i).toNat)
  case atStart => exact ⟨0, _, rfl, rfl, Nat.zero_le _, rfl⟩
  case round =>
    obtain ⟨k, z, rfl, rfl, hk, rfl⟩ := hrel
    by_cases hlt : k < bs.length
    · obtain ⟨xb, xo, rfl, hcx, hx0, hx1⟩ := HA.out.get hlt
      generalize bs[k] = x at hcx hx0 hx1
      go_wp2
      go_roundw
      case rel => exact ⟨k + 1, _, by go_num, rfl, by omega, trivial⟩
      case measure => simp [intOf]; omega
    · obtain rfl : k = bs.length := by omega
      go_wp2
      go_ret
      exact ⟨_, rfl, ⟨⟨_, 0, z, BoxC.new _ _ _ _, Nat.zero_le _, HA.out⟩, hl, Nat.le_refl _, below_alloc _ _⟩, below_alloc _ _⟩

theorem l1Min_any (x y : Int) (w : World) : Calls Tryd.prog 104 #[.int .i64 x, .int .i64 y] w fun e w' => e = .returned (.int .i64 (min x y)) ∧ w = w' := by
  by_cases h : x < y
  · have hm : Hid (min x y = x) := Lib.hid (by omega)
    go_enter Tryd.func104, Tryd.ntmps104
    go_wp2
    go_ret
    exact ⟨by rw [hm.out]; rfl, rfl⟩
  · have hm : Hid (min x y = y) := Lib.hid (by omega)
    go_enter Tryd.func104, Tryd.ntmps104
    go_wp2
    go_ret
    exact ⟨by rw [hm.out]; rfl, rfl⟩

theorem lit_nums (w : World) (xs : List Int) (hl : xs.length ≤ 1000) : Nums (w.alloc (.cells (xs.map (Value.int .i64)).toArray 2)) 2 .i64 (.slice (some ⟨w.heap.size, 0, none⟩) xs.length xs.length) xs := by
  have := World.ownsRow_lit w (xs.map (Value.int .i64)).toArray xs.length (base := w.heap.size) (e := 2) (size := 1) (Nat.le_refl _) (by unfold maxLen; omega) (by simp)
  exact Nums.of_owns (by simpa using this) rfl (by omega)

set_option maxRecDepth 100000 in
set_option maxHeartbeats 4000000 in
theorem l1Odd_any (w0 : World) (cb : Nat) (bs : List Int) (w : World) (hc : Cur w0 w cb bs) :
    Calls Tryd.prog 170 #[.pointer (some ⟨cb, 0, none⟩)] w fun e w' => ∃ z : Int, e = .returned (.int .i64 z) ∧ Cur w0 w' cb bs ∧ w.grownBy w' (some cb) := by
  have HB := Lib.hid (below_alloc w (.cells #[.int .i64 (-1), .int .i64 0, .int .i64 1, .int .i64 2147483648, .int .i64 (-2147483648), .int .i64 1099511627776, .int .i64 4611686018427387904, .int .i64 (-4611686018427387904), .int .i64 9223372036854775807, .int .i64 (-9223372036854775808)] 2))
  have HC := Lib.hid (hc.keep HB.out)
  have HL := Lib.hid (lit_nums w [-1, 0, 1, 2147483648, -2147483648, 1099511627776, 4611686018427387904, -4611686018427387904, 9223372036854775807, -9223372036854775808] (by simp))
  clear hc
  go_enter Tryd.func170, Tryd.ntmps170
  go_wp2_with go_loud (go_at_call 148; refine (l1Below_any w0 cb bs 10 (by decide) _ HC.out).mono ?_; rintro e w2 ⟨r, rfl, hr, _, hc2, hg2⟩; have HC2 := Lib.hid hc2; have HG2 := Lib.hid hg2; have hr10 := hr (by decide); (obtain ⟨_, _, e1, hcell⟩ := (show Nums w2 2 .i64 _ _ from Sl.cured HC.out hg2 (by decide) HL.out).get (k := r) (by simp; omega)); cases e1; rw [Nat.zero_add] at hcell; (obtain ⟨zz, hzz⟩ : ∃ z : Int, w2.cell? ⟨w.heap.size, r, none⟩ = some (.int .i64 z) := ⟨_, hcell⟩); (have hr0 : (r : Int) < 10 := hr10); clear hcell hr hc2 hg2 hr10)
  go_ret
  exact ⟨_, rfl, HC2.out, grown_trans (grown_of_below HB.out _) HG2.out⟩

set_option maxRecDepth 100000 in
set_option maxHeartbeats 4000000 in
theorem l1Num_any (w0 : World) (cb : Nat) (bs : List Int) (n : Int) (hn0 : 0 ≤ n) (hn : n ≤ 1000000) (w : World) (hc : Cur w0 w cb bs) :
    Calls Tryd.prog 166 #[.pointer (some ⟨cb, 0, none⟩), .int .i64 n] w fun e w' => ∃ z : Int, e = .returned (.int .i64 z) ∧ Cur w0 w' cb bs ∧ w.grownBy w' (some cb) := by
  have HC := Lib.hid hc
  have hwr : IntKind.i64.wrap (n + 1) = n + 1 := by rw [IntKind.wrap_i64]; omega
  clear hc
  go_enter Tryd.func166, Tryd.ntmps166
  go_upto_if 6 with (go_at_call 147; refine (l1Once_any w0 cb bs 10 (by decide) _ HC.out).mono ?_; rintro e w2 ⟨b, rfl, hc2, hg2⟩; have HC2 := Lib.hid hc2; have HG2 := Lib.hid hg2; clear hc2 hg2)
  cases b
  · go_upto_if 18 with (go_at_call 147; refine (l1Once_any w0 cb bs 2 (by decide) _ HC2.out).mono ?_; rintro e w3 ⟨b, rfl, hc2, hg2⟩; have HC3 := Lib.hid hc2; have HG3 := Lib.hid (grown_trans HG2.out hg2); clear hc2 hg2)
    cases b
    · go_wp2_with (go_at_call 148; refine (l1Below_any w0 cb bs (n + 1) (by omega) _ HC3.out).mono ?_; rintro e w4 ⟨r, rfl, _, _, hc2, hg2⟩; have HC4 := Lib.hid hc2; have HG4 := Lib.hid (grown_trans HG3.out hg2); clear hc2 hg2)
      go_ret
      exact ⟨_, rfl, HC4.out, HG4.out⟩
    · have hmn : 0 ≤ min n 4 ∧ min n 4 ≤ 4 := by omega
      have hwr2 : IntKind.i64.wrap (min n 4 + 1) = min n 4 + 1 := by rw [IntKind.wrap_i64]; omega
      have HMI := Lib.hid (l1Min_any n 4)
      obtain ⟨mn, hm⟩ : ∃ mn, mn = min n 4 := ⟨_, rfl⟩
      rw [← hm] at hmn hwr2 HMI
      clear hm
      go_wp2_with (first
        | (go_at_call 148; refine (l1Below_any w0 cb bs (mn + 1) (by omega) _ HC3.out).mono ?_; rintro e w4 ⟨r, rfl, _, _, hc2, hg2⟩; have HC4 := Lib.hid hc2; have HG4 := Lib.hid (grown_trans HG3.out hg2); clear hc2 hg2)
        | (go_at_call 104; refine (HMI.out _).mono ?_; rintro e wm ⟨rfl, rfl⟩))
      go_ret
      exact ⟨_, rfl, HC4.out, HG4.out⟩
  · go_wp2_with (first
      | (go_at_call 148; refine (l1Below_any w0 cb bs 4 (by decide) _ HC4.out).mono ?_; rintro e w5 ⟨r, rfl, hr, _, hc2, hg2⟩; have HC5 := Lib.hid hc2; have HG5 := Lib.hid (grown_trans HG4.out hg2); have hr4 := hr (by decide); (obtain ⟨_, _, e1, hcell⟩ := (show Nums w5 2 .i64 _ _ from Sl.cured HC4.out hg2 (by decide) HL.out).get (k := r) (by simp; omega)); cases e1; rw [Nat.zero_add] at hcell; (obtain ⟨zz, hzz⟩ : ∃ z : Int, w5.cell? ⟨w3.heap.size, r, none⟩ = some (.int .i64 z) := ⟨_, hcell⟩); (have hr0 : (r : Int) < 4 := hr4); clear hcell hr hc2 hg2 hr4)
      | (go_at_call 170; refine (l1Odd_any w0 cb bs _ HC2.out).mono ?_; rintro e w3 ⟨od, rfl, hc2, hg2⟩; have HC3 := Lib.hid hc2; have HG3 := Lib.hid (grown_trans HG2.out hg2); clear hc2 hg2; have HB3 := Lib.hid (below_alloc w3 (.cells #[.int .i64 (-1), .int .i64 n, .int .i64 (n + 1), .int .i64 od] 2)); have HC4 := Lib.hid (HC3.out.keep HB3.out); have HG4 := Lib.hid (grown_trans HG3.out (grown_of_below HB3.out _)); have HL := Lib.hid (lit_nums w3 [-1, n, n + 1, od] (by simp))))
    go_ret
    exact ⟨_, rfl, HC5.out, HG5.out⟩

end Go.Proofs.YtiooindlpinjhaaDoor
