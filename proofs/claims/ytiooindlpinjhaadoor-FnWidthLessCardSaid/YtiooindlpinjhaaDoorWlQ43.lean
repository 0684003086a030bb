/- Walks: the reference's draws: a graph by dice (l1DrawOf), one of several kinds (l1Draw). -/
import Derived.Test.YtiooindlpinjhaaDoorWlQ42
namespace Go.Proofs.YtiooindlpinjhaaDoor
open Go.RowKit

theorem grown_over {w wr w2 : World} {r : Option Nat} {q : Option Nat} (h : w.grownBy wr r) (hg : wr.grownBy w2 q) (hq : ∀ k, q = some k → w.heap.size ≤ k) : w.grownBy w2 r :=
  ⟨hg.os.trans h.os, hg.tape.trans h.tape, hg.output.trans h.output, Nat.le_trans h.size hg.size, fun k hk hne => (hg.block k (Nat.lt_of_lt_of_le hk h.size) (fun e => by have := hq k e.symm; omega)).trans (h.block k hk hne)⟩
theorem grown_newD {w w' : World} {r : Option Nat} (h : w.grownBy w' r) {b i : Nat} (hb : w.heap.size ≤ b) (u : Value) : w.grownBy (w'.setCell ⟨b, i, none⟩ u) r :=
  ⟨h.os, h.tape, h.output, by rw [World.size_setCell]; exact h.size, fun k hk hne => (Below.heap_setCell _ _ _ _ (by show k ≠ b; omega)).trans (h.block k hk hne)⟩
theorem Cur.cb_lt {w0 w : World} {cb : Nat} {bs : List Int} (h : Cur w0 w cb bs) : cb < w.heap.size := by
  obtain ⟨_, _, _, h1, _⟩ := h.ex
  exact h1.lt
/-- The cursor while blocks behind it are written. -/
theorem Cur.over {w0 wr w2 : World} {cb : Nat} {bs : List Int} {q : Option Nat} (h : Cur w0 wr cb bs) (hg : wr.grownBy w2 q) (hq : ∀ k, q = some k → cb < k) : Cur w0 w2 cb bs := by
  obtain ⟨bv, i, z, h1, h2, h3⟩ := h.ex
  exact ⟨⟨bv, i, z, h1.to (hg.block cb h1.lt (fun e => by have := hq cb e.symm; omega)), h2, h3⟩, h.few, h.lo, h.bel.grown hg h.bel.size (fun k hk => by have := hq k hk; have := h.lo; omega)⟩
theorem Cur.setCell {w0 wr : World} {cb : Nat} {bs : List Int} (h : Cur w0 wr cb bs) {b i : Nat} (hb : cb < b) (u : Value) : Cur w0 (wr.setCell ⟨b, i, none⟩ u) cb bs := by
  obtain ⟨bv, k, z, h1, h2, h3⟩ := h.ex
  exact ⟨⟨bv, k, z, h1.to (Below.heap_setCell _ _ _ _ (by show cb ≠ b; omega)), h2, h3⟩, h.few, h.lo, h.bel.setCell (by show w0.heap.size ≤ b; have := h.lo; omega) _⟩

/-- A graph that grows beside the cursor. -/
structure DoI (w0 w wr : World) (cb : Nat) (bs : List Int) (b5 : Nat) (p : Option Addr) (c n : Nat) (E : Nat → Nat → Bool) : Prop where
  dg : DG wr (w.heap.size + 1) (.agg #[.slice p n c]) (matG n E)
  cur : Cur w0 wr cb bs
  gr : w.grownBy wr (some cb)
  box : Box wr b5 28 (.slice p n c)
  res : Box wr w.heap.size 28 (.slice none 0 0)
  own : ∀ k, (Value.slice p n c).ownBlock = some k → w.heap.size + 1 ≤ k ∧ k < b5
  hcb : cb < w.heap.size
  b5 : w.heap.size + 1 ≤ b5
theorem DoI.throw {w0 w wr w2 : World} {cb : Nat} {bs : List Int} {b5 : Nat} {p : Option Addr} {c n : Nat} {E : Nat → Nat → Bool} (h : DoI w0 w wr cb bs b5 p c n E) (hc : Cur w0 w2 cb bs) (hg : wr.grownBy w2 (some cb)) : DoI w0 w w2 cb bs b5 p c n E :=
  ⟨h.dg.cured h.cur hg, hc, grown_trans h.gr hg, h.box.cured h.cur hg (by decide), h.res.cured h.cur hg (by decide), h.own, h.hcb, h.b5⟩
theorem DoI.link {w0 w wr w2 : World} {cb : Nat} {bs : List Int} {b5 : Nat} {p : Option Addr} {c n : Nat} {E E' : Nat → Nat → Bool} (h : DoI w0 w wr cb bs b5 p c n E) (hs : DG w2 (w.heap.size + 1) (.agg #[.slice p n c]) (matG n E')) (hg : wr.grownBy w2 (Value.slice p n c).ownBlock) :
    DoI w0 w (w2.setCell ⟨b5, 0, none⟩ (.slice p n c)) cb bs b5 p c n E' := by
  have hbox := h.box.grown hg (fun e => by have := (h.own b5 e.symm).2; omega)
  have hres := h.res.grown hg (fun e => by have := (h.own _ e.symm).1; omega)
  have hcb := h.hcb
  have hb5 := h.b5
  exact ⟨hs.setBox hbox _, (h.cur.over hg fun k hk => by have := (h.own k hk).1; omega).setCell (by omega) _, grown_newD (grown_over h.gr hg fun k hk => by have := (h.own k hk).1; omega) (by omega) _, hbox.set _, hres.setOther (by show w.heap.size ≠ b5; omega) _, h.own, h.hcb, h.b5⟩

set_option maxRecDepth 100000 in
set_option maxHeartbeats 8000000 in
theorem l1DrawOf_any (w0 : World) (cb : Nat) (bs : List Int) (z : Int) (n : Nat) (hz : z = n) (hn1 : 1 ≤ n) (hn : n ≤ 16) (w : World) (hc : Cur w0 w cb bs) :
    Calls Tryd.prog 169 #[.pointer (some ⟨cb, 0, none⟩), .int .i64 z] w fun e w' => ∃ (u : Value) (E : Nat → Nat → Bool), e = .returned u ∧ SymI E ∧ DG w' w.heap.size u (matG n E) ∧ Cur w0 w' cb bs ∧ w.grownBy w' (some cb) := by
  subst hz
  have hcb := hc.cb_lt
  obtain ⟨w1, hw1⟩ : ∃ w1, w1 = w.alloc (.cells #[.slice none 0 0] 28) := ⟨_, rfl⟩
  have HR : Hid (Box w1 w.heap.size 28 (.slice none 0 0)) := Lib.hid (by rw [hw1]; exact Box.new _ _ _)
  have HB : Hid (Below w.heap.size w w1) := Lib.hid (by rw [hw1]; exact below_alloc _ _)
  have s1 : w1.heap.size = w.heap.size + 1 := by rw [hw1, size_alloc]
  have HC1 := Lib.hid (hc.keep HB.out)
  clear hc
  go_enter Tryd.func169, Tryd.ntmps169
  go_upto_region 1 with fail
  rw [← hw1]
  clear hw1
  go_upto_region 2 with (go_at_call 128; refine (l1EmptyD_any _ n rfl (by omega) _).mono ?_; rintro e w2 ⟨u, rfl, hs2, hb2⟩; obtain ⟨p, c, rfl⟩ := hs2.shape; rw [List.length_replicate] at hs2 ⊢)
  have hempty : matG n (fun _ _ => false) = List.replicate n [] := matG_none n fun _ _ _ _ => rfl
  rw [← hempty, s1] at hs2
  have hb13 : Below w1.heap.size w1 (w2.alloc (.cells #[.slice p n c] 28)) := hb2.alloc hb2.size _
  have START : Hid (DoI w0 w (w2.alloc (.cells #[.slice p n c] 28)) cb bs w2.heap.size p c n (fun _ _ => false)) := Lib.hid
    ⟨hs2.below (below_alloc _ _), HC1.out.keep hb13, grown_of_below (HB.out.trans (hb13.mono HB.out.size)) _, Box.new _ _ _, HR.out.keep hb13, hs2.lt, hcb, by have := hb2.size; omega⟩
  obtain ⟨w3, hw3⟩ : ∃ w3, w3 = w2.alloc (.cells #[.slice p n c] 28) := ⟨_, rfl⟩
  rw [← hw3] at START ⊢
  generalize w2.heap.size = b5 at *
  clear hs2 hb2 hb13 hempty hw3 HC1 HB HR
  go_upto_region 3 with (go_at_call 148; refine (l1Below_any w0 cb bs 3 (by decide) _ START.out.cur).mono ?_; rintro e w4 ⟨of, rfl, hof, _, hc2, hg2⟩; have HI4 := Lib.hid (START.out.throw hc2 hg2); have hof3 := hof (by decide); clear hof hc2 hg2)
  clear START
  go_wp2
  go_loopw [7] (fun i wr => ∃ (v : Nat) (E : Nat → Nat → Bool), 1 ≤ v ∧ v ≤ n ∧ i = .int .i64 v ∧ Hid (SymI E ∧ ∀ r j, E r j = true → max r j < v) ∧ Hid (DoI w0 w wr cb bs b5 p c n E)) (fun i _ => n - (intOf i).toNat)
  case atStart => exact ⟨1, _, Nat.le_refl _, hn1, rfl, Lib.hid ⟨symI_none, fun r j h => by cases h⟩, HI4⟩
  case round =>
    clear HI4
    obtain ⟨v, E, hv1, hvn, rfl, HE, HI⟩ := hrel
    by_cases hlt : v < n
    · go_wp2
      go_loopw [8] (fun i wr => ∃ (u : Nat) (E : Nat → Nat → Bool), u ≤ v ∧ i = .int .i64 u ∧ Hid (SymI E ∧ ∀ r j, E r j = true → max r j < v ∨ (max r j = v ∧ min r j < u)) ∧ Hid (DoI w0 w wr cb bs b5 p c n E)) (fun i _ => v - (intOf i).toNat)
      case atStart => exact ⟨0, E, Nat.zero_le _, rfl, Lib.hid ⟨HE.out.1, fun r j h => .inl (HE.out.2 r j h)⟩, HI⟩
      case round =>
        clear HE HI
        obtain ⟨u, E, huv, rfl, HE, HI⟩ := hrel
        by_cases hlt2 : u < v
        · go_upto_if 27 with (go_at_call 148; refine (l1Below_any w0 cb bs 4 (by decide) _ HI.out.cur).mono ?_; rintro e w6 ⟨r, rfl, _, _, hc2, hg2⟩; have HI6 := Lib.hid (HI.out.throw hc2 hg2); clear hc2 hg2)
          by_cases hr : (r : Int) < 1 + (of : Int)
          · have cb5 := HI6.out.box.cell
            have fb5 := HI6.out.box.free
            have hEuv : E u v = false := by
              cases h : E u v with
              | false => rfl
              | true => have := HE.out.2 u v h; omega
            have hEvu : E v u = false := by
              cases h : E v u with
              | false => rfl
              | true => have := HE.out.2 v u h; omega
            have hlk := l1LinkD_any p c (matG n E) u v u v (w.heap.size + 1) rfl rfl (by rw [matG_length]; omega) (by rw [matG_length]; omega) (by omega) (not_mem_matG (by omega) hEuv) (not_mem_matG (by omega) hEvu) (fun j _ => Nat.le_trans (matG_row_le j) (by omega)) w6 (by rw [matG_length]; exact HI6.out.dg)
            rw [matG_length, link_matG (by omega) (by omega) (by omega)] at hlk
            have HLK := Lib.hid hlk
            have HSN := Lib.hid (symI_link HE.out.1 (show u ≠ v by omega))
            have HSM : Hid (∀ r j, (E r j || (r == u && j == v) || (r == v && j == u)) = true → max r j < v ∨ (max r j = v ∧ min r j < u + 1)) := Lib.hid (fun r j h => by
              simp only [Bool.or_eq_true, Bool.and_eq_true, beq_iff_eq] at h
              rcases h with (h | h) | h
              · have := HE.out.2 r j h; omega
              · omega
              · omega)
            clear hlk hEuv hEvu
            go_wp2_with (go_at_call 106; refine HLK.out.mono ?_; rintro e w7 ⟨rfl, hs6, hg6⟩; have hbx := HI6.out.box.grown hg6 (fun e => by have := (HI6.out.own _ e.symm).2; omega); have hc6 := hbx.cell; have hf6 := hbx.free)
            go_roundw
            case rel => exact ⟨u + 1, _, by omega, by go_num, Lib.hid ⟨HSN.out, HSM.out⟩, Lib.hid (HI6.out.link hs6 hg6)⟩
            case measure => simp [intOf]; omega
          · go_wp2
            go_roundw
            case rel => exact ⟨u + 1, E, by omega, by go_num, Lib.hid ⟨HE.out.1, fun r j h => by have := HE.out.2 r j h; omega⟩, HI6⟩
            case measure => simp [intOf]; omega
        · obtain rfl : u = v := by omega
          go_wp2
          go_roundw
          case rel => exact ⟨u + 1, E, by omega, by omega, by go_num, Lib.hid ⟨HE.out.1, fun r j h => by have := HE.out.2 r j h; omega⟩, HI⟩
          case measure => simp [intOf]; omega
    · obtain rfl : v = n := by omega
      have cb5 := HI.out.box.cell
      obtain ⟨nc, nf, nl, nB⟩ := id HI.out.res
      go_wp2
      refine bodyPost_ret (v := .agg #[.slice p v c]) (by simp [results, Tryd.results169, go_sem, nc]) rfl ⟨_, E, rfl, HE.out.1, ?_, ?_, ?_⟩
      · exact (HI.out.dg.setBox HI.out.res _).base (by omega)
      · exact HI.out.cur.setCell hcb _
      · exact grown_newD HI.out.gr (Nat.le_refl _) _

end Go.Proofs.YtiooindlpinjhaaDoor

/- Walks: the reference's draws: a graph of one of several kinds (l1Draw; printed by wip/mkDr.py). -/
namespace Go.Proofs.YtiooindlpinjhaaDoor
open Go.RowKit

set_option maxRecDepth 100000 in
set_option maxHeartbeats 8000000 in
theorem l1Draw_any (w0 : World) (cb : Nat) (bs : List Int) (w : World) (hc : Cur w0 w cb bs) :
    Calls Tryd.prog 165 #[.pointer (some ⟨cb, 0, none⟩)] w fun e w' => ∃ (u : Value) (n : Nat) (E : Nat → Nat → Bool), e = .returned u ∧ 1 ≤ n ∧ n ≤ 7 ∧ SymI E ∧ DG w' w.heap.size u (matG n E) ∧ Cur w0 w' cb bs ∧ w.grownBy w' (some cb) := by
  have hcb := hc.cb_lt
  obtain ⟨w1, hw1⟩ : ∃ w1, w1 = w.alloc (.cells #[.slice none 0 0] 28) := ⟨_, rfl⟩
  have HR : Hid (Box w1 w.heap.size 28 (.slice none 0 0)) := Lib.hid (by rw [hw1]; exact Box.new _ _ _)
  have HB : Hid (Below w.heap.size w w1) := Lib.hid (by rw [hw1]; exact below_alloc _ _)
  have s1 : w1.heap.size = w.heap.size + 1 := by rw [hw1, size_alloc]
  have HC1 := Lib.hid (hc.keep HB.out)
  clear hc
  go_enter Tryd.func165, Tryd.ntmps165
  go_upto_region 1 with fail
  rw [← hw1]
  clear hw1
  go_cut [8] (fun v wx => ∃ k : Nat, v = .int .i64 (k : Int) ∧ k < 6 ∧ Cur w0 wx cb bs ∧ w1.grownBy wx (some cb))
  case first =>
    go_wp2_with (go_at_call 148; refine (l1Below_any w0 cb bs 6 (by decide) _ HC1.out).mono ?_; rintro e w2 ⟨k, rfl, hk, _, hc2, hg2⟩; have hk6 := hk (by decide))
    go_meet
    exact ⟨k, rfl, by omega, hc2, hg2⟩
  case rest =>
  obtain ⟨k, rfl, hk, hc2, hg2⟩ := hcut
  have HC2 := Lib.hid hc2
  have HG2 := Lib.hid hg2
  have HR2 := Lib.hid (HR.out.cured HC1.out hg2 (by decide))
  have s2 := hg2.size
  clear hc2 hg2 HC1 HR
  by_cases hk0 : k = 0
  · subst hk0
    go_upto_region 4 with (first
      | (go_at_call 167; refine (specLoop_yes _ (3 + r) (by omega) (by omega) (by omega) _).mono ?_; rintro e w4 ⟨u, rfl, hs, hb4⟩; obtain ⟨p, c, rfl⟩ := hs.shape; rw [matG_length] at hs ⊢)
      | (go_at_call 148; refine (l1Below_any w0 cb bs 4 (by decide) _ HC2.out).mono ?_; rintro e w3 ⟨r, rfl, hr, _, hc3, hg3⟩; have HC3 := Lib.hid hc3; have HG3 := Lib.hid (grown_trans HG2.out hg3); have HR3 := Lib.hid (HR2.out.cured HC2.out hg3 (by decide)); have s3 := hg3.size; have hr4 := hr (by decide); (have hwr : IntKind.i64.wrap ((3 : Int) + (r : Int)) = (3 : Int) + (r : Int) := (by rw [IntKind.wrap_i64]; omega)); clear hr hc3 hg3))
    obtain ⟨w5, hw5⟩ : ∃ w5, w5 = w4.alloc (.cells #[.slice p (3 + r) c] 28) := ⟨_, rfl⟩
    rw [← hw5]
    have hb45 : Below w4.heap.size w4 w5 := by rw [hw5]; exact below_alloc _ _
    have hb35 := Lib.hid (hb4.trans (hb45.mono hb4.size))
    have HBX : Hid (Box w5 w4.heap.size 28 (.slice p (3 + r) c)) := Lib.hid (by rw [hw5]; exact Box.new _ _ _)
    have HS5 := Lib.hid (hs.below hb45)
    have HR5 := Lib.hid (HR3.out.keep hb35.out)
    have cx := HBX.out.cell
    generalize w4.heap.size = b5 at *
    obtain ⟨nc, nf, nl, nB⟩ := id HR5.out
    clear hw5 hb45 hb4 hs
    go_wp2
    refine bodyPost_ret (v := .agg #[.slice p (3 + r) c]) (by simp [results, Tryd.results165, go_sem, nc]) rfl ⟨_, 3 + r, _, rfl, by omega, by omega, lopE_symI (n := 3 + r) (by omega), ?_, ?_, ?_⟩
    · exact (HS5.out.setBox HR5.out _).base (by omega)
    · exact (HC3.out.keep hb35.out).setCell hcb _
    · exact grown_newD (grown_trans (grown_of_below HB.out _) (grown_trans HG3.out (grown_of_below hb35.out _))) (Nat.le_refl _) _
  · by_cases hk1 : k = 1
    · subst hk1
      go_upto_region 7 with (first
        | (go_at_call 168; refine (specPath_yes _ (1 + r) (by omega) (by omega) (by omega) _).mono ?_; rintro e w4 ⟨u, rfl, hs, hb4⟩; obtain ⟨p, c, rfl⟩ := hs.shape; rw [matG_length] at hs ⊢)
        | (go_at_call 148; refine (l1Below_any w0 cb bs 6 (by decide) _ HC2.out).mono ?_; rintro e w3 ⟨r, rfl, hr, _, hc3, hg3⟩; have HC3 := Lib.hid hc3; have HG3 := Lib.hid (grown_trans HG2.out hg3); have HR3 := Lib.hid (HR2.out.cured HC2.out hg3 (by decide)); have s3 := hg3.size; have hr4 := hr (by decide); (have hwr : IntKind.i64.wrap ((1 : Int) + (r : Int)) = (1 : Int) + (r : Int) := (by rw [IntKind.wrap_i64]; omega)); clear hr hc3 hg3))
      obtain ⟨w5, hw5⟩ : ∃ w5, w5 = w4.alloc (.cells #[.slice p (1 + r) c] 28) := ⟨_, rfl⟩
      rw [← hw5]
      have hb45 : Below w4.heap.size w4 w5 := by rw [hw5]; exact below_alloc _ _
      have hb35 := Lib.hid (hb4.trans (hb45.mono hb4.size))
      have HBX : Hid (Box w5 w4.heap.size 28 (.slice p (1 + r) c)) := Lib.hid (by rw [hw5]; exact Box.new _ _ _)
      have HS5 := Lib.hid (hs.below hb45)
      have HR5 := Lib.hid (HR3.out.keep hb35.out)
      have cx := HBX.out.cell
      generalize w4.heap.size = b5 at *
      obtain ⟨nc, nf, nl, nB⟩ := id HR5.out
      clear hw5 hb45 hb4 hs
      go_wp2
      refine bodyPost_ret (v := .agg #[.slice p (1 + r) c]) (by simp [results, Tryd.results165, go_sem, nc]) rfl ⟨_, 1 + r, _, rfl, by omega, by omega, pthE_symI, ?_, ?_, ?_⟩
      · exact (HS5.out.setBox HR5.out _).base (by omega)
      · exact (HC3.out.keep hb35.out).setCell hcb _
      · exact grown_newD (grown_trans (grown_of_below HB.out _) (grown_trans HG3.out (grown_of_below hb35.out _))) (Nat.le_refl _) _
    · have hk0' : ((k : Int) == 0) = false := beq_eq_false_iff_ne.2 (by omega)
      have hk1' : ((k : Int) == 1) = false := beq_eq_false_iff_ne.2 (by omega)
      obtain ⟨rc, rf, _, _⟩ := id HR2.out
      go_wp2_with (first
        | (go_at_call 169; refine (l1DrawOf_any w0 cb bs _ (1 + r) (by omega) (by omega) (by omega) _ HC3.out).mono ?_; rintro e w4 ⟨u, E, rfl, hse, hs, hc4, hg4⟩; have HSE := Lib.hid hse; obtain ⟨p, c, rfl⟩ := hs.shape; rw [matG_length] at hs ⊢; have HS4 := Lib.hid hs; have HC4 := Lib.hid hc4; have HG4 := Lib.hid (grown_trans HG3.out hg4); have HR4 := Lib.hid (HR3.out.cured HC3.out hg4 (by decide)); obtain ⟨nc, nf, nl, nB⟩ := id HR4.out; clear hse hs hc4 hg4)
        | (go_at_call 148; refine (l1Below_any w0 cb bs 7 (by decide) _ HC2.out).mono ?_; rintro e w3 ⟨r, rfl, hr, _, hc3, hg3⟩; have HC3 := Lib.hid hc3; have HG3 := Lib.hid (grown_trans HG2.out hg3); have HR3 := Lib.hid (HR2.out.cured HC2.out hg3 (by decide)); have s3 := hg3.size; have hr4 := hr (by decide); (have hwr : IntKind.i64.wrap ((1 : Int) + (r : Int)) = (1 : Int) + (r : Int) := (by rw [IntKind.wrap_i64]; omega)); clear hr hc3 hg3))
      refine bodyPost_ret (v := .agg #[.slice p (1 + r) c]) (by simp [results, Tryd.results165, go_sem, nc]) rfl ⟨_, 1 + r, E, rfl, by omega, by omega, HSE.out, ?_, ?_, ?_⟩
      · exact (HS4.out.setBox HR4.out _).base (by omega)
      · exact HC4.out.setCell hcb _
      · exact grown_newD (grown_trans (grown_of_below HB.out _) HG4.out) (Nat.le_refl _) _

end Go.Proofs.YtiooindlpinjhaaDoor

/- Walks: the reference's draws: a graph, bent sometimes (l1DrawAny; printed by wip/mkDrF.py). -/
namespace Go.Proofs.YtiooindlpinjhaaDoor
open Go.RowKit

theorem gr_setBox {w : World} {b : Nat} {v x : Value} {g : List (List Int)} (h : Gr w v g) (hb : Box w b 28 x) (u : Value) : Gr (w.setCell ⟨b, 0, none⟩ u) v g := by
  obtain ⟨u0, rfl, hr⟩ := h
  exact ⟨u0, rfl, hr.setBox hb (by decide) (by decide) u⟩
/-- One row is put in the place of another: the rows read so. -/
theorem dg_put {wr w2 : World} {base ob c u : Nat} {g : List (List Int)} {rv : Value} {s : List Int} (h : DG wr base (.agg #[.slice (some ⟨ob, 0, none⟩) g.length c]) g) (hr : ∀ j, j < g.length → (row g j).length ≤ 1000) (hb : Below wr.heap.size wr w2) (hn : Nums w2 2 .i64 rv s) (hu : u < g.length) (hg : g.length ≤ 1000) :
    Gr (w2.setCell ⟨ob, u, none⟩ rv) (.agg #[.slice (some ⟨ob, 0, none⟩) (g.set u s).length c]) (g.set u s) ∧ w2.grownBy (w2.setCell ⟨ob, u, none⟩ rv) (some ob) := by
  obtain ⟨_, vals, h1, hl, ho, hrows⟩ := h
  cases h1
  have ho' := ownsRow_below ho hb
  obtain ⟨ho2, hg2⟩ := ho'.stored u rv
  refine ⟨⟨_, rfl, Rws.of_owned (vals.set u rv) (by simp [hl]) (by rw [List.length_set]; exact ho2) (by rw [List.length_set]; omega) fun j hj => ?_⟩, hg2⟩
  rw [List.length_set] at hj
  change Nums _ _ _ _ (row (g.set u s) j)
  rw [row_set _ _ _ _ hu]
  by_cases e : j = u
  · subst e
    rw [if_pos rfl]
    have : (vals.set j rv).getD j undef = rv := by simp [hl, hj]
    rw [this]
    exact hn.other ho' hg2 (by decide)
  · rw [if_neg e]
    have : (vals.set u rv).getD j undef = vals.getD j undef := by simp [show ¬ u = j from fun q => e q.symm]
    rw [this]
    exact ((Nums.of_owns (hrows.rows j hj) rfl (by have := hr j hj; omega)).below hb).other ho' hg2 (by decide)
theorem row_set_le {g : List (List Int)} {u m : Nat} {s : List Int} (hu : u < g.length) (h : ∀ j, (row g j).length ≤ m) (hs : s.length ≤ m) (j : Nat) : (row (g.set u s) j).length ≤ m := by
  rw [row_set _ _ _ _ hu]
  split
  · exact hs
  · exact h j

theorem box_ne_own {w : World} {b : Nat} {T : TypeId} {x : Value} (h : Box w b T x) {base : Nat} {E : TypeId} {size n : Nat} {v : Value} {xs : List Value} (ho : w.ownsRow base E size v n xs) (hE : E ≠ T) : some b ≠ v.ownBlock := fun e => by
  rcases ho.2 with ⟨rfl, _⟩ | ⟨k, cap, cur, rfl, _, hgg, _⟩
  · simp [Value.ownBlock] at e
  · simp [Value.ownBlock] at e
    subst e
    rw [h.blk] at hgg
    simp only [Option.some.injEq, Obj.cells.injEq] at hgg
    exact hE hgg.2.1.symm
/-- One row has grown: all rows read so. -/
theorem dg_app {w7 w8 : World} {base ob c v m : Nat} {g : List (List Int)} {vals xs : List Value} {rv nv : Value} {s : List Int} (hl : vals.length = g.length) (hov : w7.ownsRow base 26 1 (.slice (some ⟨ob, 0, none⟩) g.length c) g.length vals) (hD : Dis w7 base g.length vals g) (hrv : rv = vals.getD v undef)
    (hr : ∀ j, j < g.length → (row g j).length ≤ 1000) (hrow : w7.ownsRow base 2 1 rv m xs) (hg : w7.grownBy w8 rv.ownBlock) (hn : Nums w8 2 .i64 nv s) (hv : v < g.length) (hgl : g.length ≤ 1000) :
    Gr (w8.setCell ⟨ob, v, none⟩ nv) (.agg #[.slice (some ⟨ob, 0, none⟩) (g.set v s).length c]) (g.set v s) ∧ w8.grownBy (w8.setCell ⟨ob, v, none⟩ nv) (some ob) := by
  have ho' := ownsRow_other hov hrow hg (by decide)
  obtain ⟨ho2, hg2⟩ := ho'.stored v nv
  refine ⟨⟨_, rfl, Rws.of_owned (vals.set v nv) (by simp [hl]) (by rw [List.length_set]; exact ho2) (by rw [List.length_set]; omega) fun j hj => ?_⟩, hg2⟩
  rw [List.length_set] at hj
  change Nums _ _ _ _ (row (g.set v s) j)
  rw [row_set _ _ _ _ hv]
  by_cases e : j = v
  · subst e
    rw [if_pos rfl]
    have : (vals.set j nv).getD j undef = nv := by simp [hl, hj]
    rw [this]
    exact hn.other ho' hg2 (by decide)
  · rw [if_neg e]
    have : (vals.set v nv).getD j undef = vals.getD j undef := by simp [show ¬ v = j from fun q => e q.symm]
    rw [this]
    have hne : (vals.getD j undef).ownBlock = none ∨ (vals.getD j undef).ownBlock ≠ rv.ownBlock := by
      cases hb : (vals.getD j undef).ownBlock with
      | none => exact .inl rfl
      | some b =>
        refine .inr fun e2 => ?_
        rw [hrv] at e2
        exact hD.dis v j hv hj (fun q => e q.symm) b e2.symm hb
    have hk := (hD.rows j hj).kept hg hne
    exact (Nums.of_owns hk rfl (by have := hr j hj; omega)).other ho' hg2 (by decide)

set_option maxRecDepth 100000 in
set_option maxHeartbeats 8000000 in
theorem l1DrawAny_any (w0 : World) (cb : Nat) (bs : List Int) (w : World) (hc : Cur w0 w cb bs) :
    Calls Tryd.prog 159 #[.pointer (some ⟨cb, 0, none⟩)] w fun e w' => ∃ (u : Value) (g : List (List Int)), e = .returned u ∧ Gr w' u g ∧ g.length ≤ 17 ∧ (∀ j, (row g j).length ≤ 17) ∧ Cur w0 w' cb bs ∧ w.grownBy w' (some cb) := by
  have hcb := hc.cb_lt
  obtain ⟨w1, hw1⟩ : ∃ w1, w1 = w.alloc (.cells #[.slice none 0 0] 28) := ⟨_, rfl⟩
  have HR : Hid (Box w1 w.heap.size 28 (.slice none 0 0)) := Lib.hid (by rw [hw1]; exact Box.new _ _ _)
  have HB : Hid (Below w.heap.size w w1) := Lib.hid (by rw [hw1]; exact below_alloc _ _)
  have s1 : w1.heap.size = w.heap.size + 1 := by rw [hw1, size_alloc]
  have HC1 := Lib.hid (hc.keep HB.out)
  clear hc
  go_enter Tryd.func159, Tryd.ntmps159
  go_upto_region 1 with fail
  rw [← hw1]
  clear hw1
  go_upto_region 2 with (go_at_call 165; refine (l1Draw_any w0 cb bs _ HC1.out).mono ?_; rintro e w2 ⟨u, n, E, rfl, hn1, hn7, _, hs, hc2, hg2⟩; obtain ⟨p, c, rfl⟩ := hs.shape)
  obtain ⟨g, hgm⟩ : ∃ g, g = matG n E := ⟨_, rfl⟩
  have hgl : g.length = n := by rw [hgm, matG_length]
  have HRL : Hid (∀ j, (row g j).length ≤ 7) := Lib.hid (fun j => by rw [hgm]; exact Nat.le_trans (matG_row_le j) hn7)
  rw [← hgm] at hs ⊢
  have hg1 : 1 ≤ g.length := by omega
  have hg7 : g.length ≤ 7 := by omega
  obtain ⟨w3, hw3⟩ : ∃ w3, w3 = w2.alloc (.cells #[.slice p g.length c] 28) := ⟨_, rfl⟩
  rw [← hw3]
  have hb23 : Below w2.heap.size w2 w3 := by rw [hw3]; exact below_alloc _ _
  have HD3 := Lib.hid (hs.below hb23)
  have HC3 := Lib.hid (hc2.keep hb23)
  have HG3 := Lib.hid (grown_trans (grown_of_below HB.out _) (grown_trans hg2 (grown_of_below hb23 _)))
  have HX3 : Hid (Box w3 w2.heap.size 28 (.slice p g.length c)) := Lib.hid (by rw [hw3]; exact Box.new _ _ _)
  have HR3 := Lib.hid ((HR.out.cured HC1.out hg2 (by decide)).keep hb23)
  have hOW : ∀ k, (Value.slice p g.length c).ownBlock = some k → w.heap.size + 1 ≤ k ∧ k < w2.heap.size := fun k hk => by
    have := hs.lt k hk
    omega
  have HOW := Lib.hid hOW
  have hb5 : w.heap.size + 1 ≤ w2.heap.size := by have := hg2.size; omega
  generalize w2.heap.size = b5 at *
  clear hgm hgl hw3 hb23 hs hc2 hg2 HC1 HR hn1 hn7 hOW
  go_upto_if 8 with (go_at_call 147; refine (l1Once_any w0 cb bs 12 (by decide) _ HC3.out).mono ?_; rintro e w4 ⟨b, rfl, hc4, hg4⟩; have HC4 := Lib.hid hc4; have HG4 := Lib.hid (grown_trans HG3.out hg4); have HD4 := Lib.hid (HD3.out.cured HC3.out hg4); have HX4 := Lib.hid (HX3.out.cured HC3.out hg4 (by decide)); have HR4 := Lib.hid (HR3.out.cured HC3.out hg4 (by decide)); clear hc4 hg4)
  have HGR4 := Lib.hid (HD4.out.gr (by omega) (fun j _ => Nat.le_trans (HRL.out j) (by decide)))
  have cx4 := HX4.out.cell
  clear HD3 HC3 HG3 HX3 HR3
  cases b
  · -- as it is
    obtain ⟨nc, nf, nl, nB⟩ := id HR4.out
    go_wp2
    refine bodyPost_ret (v := .agg #[.slice p g.length c]) (by simp [results, Tryd.results159, go_sem, nc]) rfl ⟨_, g, rfl, ?_, ?_, ?_, ?_, ?_⟩
    · exact gr_setBox HGR4.out HR4.out _
    · omega
    · exact fun j => Nat.le_trans (HRL.out j) (by decide)
    · exact (HC4.out).setCell hcb _
    · exact grown_newD (HG4.out) (Nat.le_refl _) _
  · obtain ⟨ob, rfl⟩ : ∃ ob, p = some ⟨ob, 0, none⟩ := by
      obtain ⟨_, vals, e1, hl, ho, _⟩ := HD4.out
      cases e1
      rcases ho.2 with ⟨_, h0⟩ | ⟨b, cc, _, h1, _⟩
      · omega
      · simp only [Value.slice.injEq] at h1
        exact ⟨b, h1.1⟩
    have hob := HOW.out ob rfl
    go_upto_region 4 with (go_at_call 148; refine (l1Below_any w0 cb bs g.length (by omega) _ HC4.out).mono ?_; rintro e w5 ⟨v, rfl, hv, _, hc5, hg5⟩; have hvl := hv (by omega); have HC5 := Lib.hid hc5; have HG5 := Lib.hid (grown_trans HG4.out hg5); have HD5 := Lib.hid (HD4.out.cured HC4.out hg5); have HX5 := Lib.hid (HX4.out.cured HC4.out hg5 (by decide)); have HR5 := Lib.hid (HR4.out.cured HC4.out hg5 (by decide)); clear hc5 hg5 hv)
    have hvg : v < g.length := by omega
    clear HD4 HC4 HG4 HX4 HR4 HGR4 cx4
    go_cut [15] (fun x wx => ∃ k : Nat, x = .int .i64 (k : Int) ∧ k < 5 ∧ Cur w0 wx cb bs ∧ w5.grownBy wx (some cb))
    case first =>
      go_wp2_with (go_at_call 148; refine (l1Below_any w0 cb bs 5 (by decide) _ HC5.out).mono ?_; rintro e w6 ⟨k, rfl, hk, _, hc6, hg6⟩; have hk5 := hk (by decide))
      go_meet
      exact ⟨k, rfl, by omega, hc6, hg6⟩
    case rest =>
    obtain ⟨k, rfl, hk, hc6, hg6⟩ := hcut
    have HC6 := Lib.hid hc6
    have HG6 := Lib.hid (grown_trans HG5.out hg6)
    have HD6 := Lib.hid (HD5.out.cured HC5.out hg6)
    have HX6 := Lib.hid (HX5.out.cured HC5.out hg6 (by decide))
    have HR6 := Lib.hid (HR5.out.cured HC5.out hg6 (by decide))
    clear hc6 hg6 HC5 HG5 HD5 HX5 HR5
    have s6 := HG6.out.size
    have hob6 : ob < wc.heap.size := by
      obtain ⟨_, vals, e1, hl, ho, _⟩ := HD6.out
      cases e1
      exact (ho.lt ob rfl).2
    have hb56 := HX6.out.lt
    have cx6 := HX6.out.cell
    have fx6 := HX6.out.free
    have hcv : ∃ rv, wc.cell? ⟨ob, v, none⟩ = some rv ∧ wc.frozen? ⟨ob, v, none⟩ = false := by
      obtain ⟨_, vals, e1, hl, ho, _⟩ := HD6.out
      cases e1
      have h1 := ho.cellAt v (by omega)
      rw [get_getD vals v undef (by omega)] at h1
      exact ⟨_, h1, ho.frozenAt v⟩
    by_cases hk2 : k = 2
    · subst hk2
      go_upto_region 15 with (first
        | (go_at_call 128; refine (l1EmptyD_any _ (16 + r) (by omega) (by omega) _).mono ?_; rintro e w8 ⟨u, rfl, hs8, hb8⟩; obtain ⟨p8, c8, rfl⟩ := hs8.shape; rw [List.length_replicate] at hs8 ⊢; have hx8 := HX7.out.keep hb8; have cx8 := hx8.cell; have fx8 := hx8.free)
        | (go_at_call 148; refine (l1Below_any w0 cb bs 2 (by decide) _ HC6.out).mono ?_; rintro e w7 ⟨r, rfl, hr, _, hc7, hg7⟩; have hr2 := hr (by decide); have HC7 := Lib.hid hc7; have HG7 := Lib.hid (grown_trans HG6.out hg7); have HX7 := Lib.hid (HX6.out.cured HC6.out hg7 (by decide)); have HR7 := Lib.hid (HR6.out.cured HC6.out hg7 (by decide)); (have hwr : IntKind.i64.wrap ((16 : Int) + (r : Int)) = (16 : Int) + (r : Int) := (by rw [IntKind.wrap_i64]; omega)); clear hc7 hg7 hr))
      have hx9 := hx8.set (.slice p8 (16 + r) c8)
      have HGR9 := Lib.hid (gr_setBox (hs8.gr (by rw [List.length_replicate]; omega) (fun j hj => by simp at hj; simp [row, hj])) hx8 (.slice p8 (16 + r) c8))
      have HC9 := Lib.hid ((HC7.out.keep hb8).setCell (show cb < b5 by omega) (.slice p8 (16 + r) c8) (i := 0))
      have HG9 := Lib.hid (grown_newD (grown_trans HG7.out (grown_of_below hb8 _)) (show w.heap.size ≤ b5 by omega) (.slice p8 (16 + r) c8) (i := 0))
      have HR9 : Hid (Box (w8.setCell ⟨b5, 0, none⟩ (.slice p8 (16 + r) c8)) w.heap.size 28 (.slice none 0 0)) := Lib.hid ((HR7.out.keep hb8).setOther (by show w.heap.size ≠ b5; omega) _)
      have HX9 := Lib.hid hx9
      obtain ⟨w9, hw9⟩ : ∃ w9, w9 = w8.setCell ⟨b5, 0, none⟩ (.slice p8 (16 + r) c8) := ⟨_, rfl⟩
      rw [← hw9] at HGR9 HC9 HG9 HR9 HX9 ⊢
      have cx9 := HX9.out.cell
      clear hw9 hx9 hx8 cx8 fx8 hs8 hb8 cx6 fx6
      obtain ⟨nc, nf, nl, nB⟩ := id HR9.out
      go_wp2
      refine bodyPost_ret (v := .agg #[.slice p8 (16 + r) c8]) (by simp [results, Tryd.results159, go_sem, nc]) rfl ⟨_, List.replicate (16 + r) [], rfl, ?_, ?_, ?_, ?_, ?_⟩
      · exact gr_setBox HGR9.out HR9.out _
      · rw [List.length_replicate]; omega
      · exact fun j => by by_cases hj : j < 16 + r <;> simp [row, hj]
      · exact (HC9.out).setCell hcb _
      · exact grown_newD (HG9.out) (Nat.le_refl _) _
    · by_cases hk3 : k = 3
      · subst hk3
        go_upto_region 15 with fail
        have HGR9 : Hid (Gr (wc.setCell ⟨b5, 0, none⟩ (.slice none 0 0)) (.agg #[.slice none 0 0]) []) := Lib.hid ⟨_, rfl, ⟨[], rfl, ⟨none, 0, rfl, fun _ => ⟨rfl, rfl⟩, Nat.le_refl _, by decide, .inl rfl⟩, fun j hj => by simp at hj⟩⟩
        have HC9 := Lib.hid (HC6.out.setCell (show cb < b5 by omega) (.slice none 0 0) (i := 0))
        have HG9 := Lib.hid (grown_newD HG6.out (show w.heap.size ≤ b5 by omega) (.slice none 0 0) (i := 0))
        have HR9 : Hid (Box (wc.setCell ⟨b5, 0, none⟩ (.slice none 0 0)) w.heap.size 28 (.slice none 0 0)) := Lib.hid (HR6.out.setOther (by show w.heap.size ≠ b5; omega) _)
        have HX9 := Lib.hid (HX6.out.set (.slice none 0 0))
        obtain ⟨w9, hw9⟩ : ∃ w9, w9 = wc.setCell ⟨b5, 0, none⟩ (.slice none 0 0) := ⟨_, rfl⟩
        rw [← hw9] at HGR9 HC9 HG9 HR9 HX9 ⊢
        have cx9 := HX9.out.cell
        clear hw9 cx6 fx6
        obtain ⟨nc, nf, nl, nB⟩ := id HR9.out
        go_wp2
        refine bodyPost_ret (v := .agg #[.slice none 0 0]) (by simp [results, Tryd.results159, go_sem, nc]) rfl ⟨_, [], rfl, ?_, ?_, ?_, ?_, ?_⟩
        · exact gr_setBox HGR9.out HR9.out _
        · simp
        · exact fun j => by simp [row]
        · exact (HC9.out).setCell hcb _
        · exact grown_newD (HG9.out) (Nat.le_refl _) _
      · by_cases hk1 : k = 1
        · subst hk1
          have ha := below_alloc wc (.cells #[.int .i64 (v : Int)] 2)
          obtain ⟨rv, hcell, hfr⟩ := hcv
          have hcell2 := ha.at' hcell
          have hfr2 := (ha.frozen (p := ⟨ob, v, none⟩) hob6).trans hfr
          have cx7 := ha.at' cx6
          have HN : Hid (Nums (wc.alloc (.cells #[.int .i64 (v : Int)] 2)) 2 .i64 (.slice (some ⟨wc.heap.size, 0, none⟩) 1 1) [(v : Int)]) := Lib.hid (lit_nums wc [(v : Int)] (by simp))
          have HPUT := Lib.hid (dg_put HD6.out (fun j _ => Nat.le_trans (HRL.out j) (by decide)) ha HN.out hvg (by omega))
          have HC7 := Lib.hid ((HC6.out.keep ha).over HPUT.out.2 (fun q hq => by cases hq; omega))
          have HG7 := Lib.hid (grown_over (grown_trans HG6.out (grown_of_below ha _)) HPUT.out.2 (fun q hq => by cases hq; omega))
          have HR7 := Lib.hid ((HR6.out.keep ha).grown HPUT.out.2 (fun e => by have e2 : w.heap.size = ob := (by simpa using e); omega))
          have HX7 := Lib.hid ((HX6.out.keep ha).grown HPUT.out.2 (fun e => by have e2 : b5 = ob := (by simpa using e); omega))
          have HGR7 := Lib.hid HPUT.out.1
          rw [List.length_set] at HGR7
          clear HPUT
          go_upto_region 15 with fail
          obtain ⟨w9, hw9⟩ : ∃ w9, w9 = (wc.alloc (.cells #[.int .i64 (v : Int)] 2)).setCell ⟨ob, v, none⟩ (.slice (some ⟨wc.heap.size, 0, none⟩) 1 1) := ⟨_, rfl⟩
          have hw8 := hw9
          rw [World.setCell_alloc_past _ _ _ _ hob6] at hw8
          rw [← hw8]
          rw [← hw9] at HC7 HG7 HR7 HX7 HGR7
          have cx9 := HX7.out.cell
          clear hw9 hw8 cx6 fx6 cx7 hcell hcell2 hfr hfr2
          obtain ⟨nc, nf, nl, nB⟩ := id HR7.out
          go_wp2
          refine bodyPost_ret (v := .agg #[.slice (some ⟨ob, 0, none⟩) g.length c]) (by simp [results, Tryd.results159, go_sem, nc]) rfl ⟨_, g.set v [(v : Int)], rfl, ?_, ?_, ?_, ?_, ?_⟩
          · exact gr_setBox HGR7.out HR7.out _
          · rw [List.length_set]; omega
          · exact row_set_le hvg (fun j => Nat.le_trans (HRL.out j) (by decide)) (by simp)
          · exact (HC7.out).setCell hcb _
          · exact grown_newD (HG7.out) (Nat.le_refl _) _
        · by_cases hk4 : k = 4
          · subst hk4
            have ha := below_alloc wc (.cells #[] 2)
            obtain ⟨rv, hcell, hfr⟩ := hcv
            have hcell2 := ha.at' hcell
            have hfr2 := (ha.frozen (p := ⟨ob, v, none⟩) hob6).trans hfr
            have cx7 := ha.at' cx6
            have HN : Hid (Nums (wc.alloc (.cells #[] 2)) 2 .i64 (.slice (some ⟨wc.heap.size, 0, none⟩) 0 0) []) := Lib.hid (lit_nums wc [] (by simp))
            have HPUT := Lib.hid (dg_put HD6.out (fun j _ => Nat.le_trans (HRL.out j) (by decide)) ha HN.out hvg (by omega))
            have HC7 := Lib.hid ((HC6.out.keep ha).over HPUT.out.2 (fun q hq => by cases hq; omega))
            have HG7 := Lib.hid (grown_over (grown_trans HG6.out (grown_of_below ha _)) HPUT.out.2 (fun q hq => by cases hq; omega))
            have HR7 := Lib.hid ((HR6.out.keep ha).grown HPUT.out.2 (fun e => by have e2 : w.heap.size = ob := (by simpa using e); omega))
            have HX7 := Lib.hid ((HX6.out.keep ha).grown HPUT.out.2 (fun e => by have e2 : b5 = ob := (by simpa using e); omega))
            have HGR7 := Lib.hid HPUT.out.1
            rw [List.length_set] at HGR7
            clear HPUT
            go_upto_region 15 with fail
            obtain ⟨w9, hw9⟩ : ∃ w9, w9 = (wc.alloc (.cells #[] 2)).setCell ⟨ob, v, none⟩ (.slice (some ⟨wc.heap.size, 0, none⟩) 0 0) := ⟨_, rfl⟩
            have hw8 := hw9
            rw [World.setCell_alloc_past _ _ _ _ hob6] at hw8
            rw [← hw8]
            rw [← hw9] at HC7 HG7 HR7 HX7 HGR7
            have cx9 := HX7.out.cell
            clear hw9 hw8 cx6 fx6 cx7 hcell hcell2 hfr hfr2
            obtain ⟨nc, nf, nl, nB⟩ := id HR7.out
            go_wp2
            refine bodyPost_ret (v := .agg #[.slice (some ⟨ob, 0, none⟩) g.length c]) (by simp [results, Tryd.results159, go_sem, nc]) rfl ⟨_, g.set v [], rfl, ?_, ?_, ?_, ?_, ?_⟩
            · exact gr_setBox HGR7.out HR7.out _
            · rw [List.length_set]; omega
            · exact row_set_le hvg (fun j => Nat.le_trans (HRL.out j) (by decide)) (by simp)
            · exact (HC7.out).setCell hcb _
            · exact grown_newD (HG7.out) (Nat.le_refl _) _
          · obtain rfl : k = 0 := by omega
            clear hcv hk hk1 hk2 hk3 hk4
            have Hm := HRL.out v
            obtain ⟨_, vals, e1, hvl, hov, hvr⟩ := id HD6.out
            cases e1
            have hrow := hvr.rows v hvg
            have hcv := hov.cellAt v (by omega)
            rw [get_getD vals v undef (by omega)] at hcv
            have hfv := hov.frozenAt v
            obtain ⟨m, hm⟩ : ∃ m, m = (row g v).length := ⟨_, rfl⟩
            rw [← hm] at hrow Hm
            obtain ⟨rv, hrv⟩ : ∃ rv, rv = vals.getD v undef := ⟨_, rfl⟩
            rw [← hrv] at hrow hcv
            have hrlt := hrow.lt
            have HROWS := Lib.hid hvr
            have HVL := Lib.hid hvl
            have HRV := Lib.hid hrv
            have HM := Lib.hid hm
            have HOV := Lib.hid hov
            have HROW := Lib.hid hrow
            have HLT := Lib.hid hrlt
            clear hvl hov hvr hrow hrv hrlt hm
            go_upto_region 6 with fail
            go_region_law (first
              | (go_simp; go_at_call 166; refine (l1Num_any w0 cb bs 16 (by decide) (by decide) _ (HC6.out.keep (below_dN (Below.refl _ _) 1))).mono ?_; rintro e w7 ⟨z, rfl, hc7, hg7⟩; have HC7 := Lib.hid hc7; have HG7 : Hid (wc.grownBy w7 (some cb)) := Lib.hid (grown_trans (grown_of_below (below_dN (Below.refl _ _) 1) _) hg7); have hrow7 := ownsRow_cured HC6.out HG7.out (by decide) HROW.out; have hov7 := ownsRow_cured HC6.out HG7.out (by decide) HOV.out; have cx7 := (HX6.out.cured HC6.out HG7.out (by decide)).cell; have cv7 : w7.cell? ⟨ob, v, none⟩ = some rv := (by have h9 := hov7.cellAt v (by omega); rw [get_getD vals v undef (by have := HVL.out; omega), ← HRV.out] at h9; exact h9); have fv7 := hov7.frozenAt v; have cx7a := fun o => (below_alloc w7 o).at' cx7; have cv7a := fun o => (below_alloc w7 o).at' cv7; have s7 := HG7.out.size; clear hc7 hg7)
              | (refine step_app1s ty_i64 rfl rfl rfl hrow7 rfl rfl (by omega) (by omega) ?_; intro b8 c8 w8 hown8 hg8; have hx8 := (HX6.out.cured HC6.out HG7.out (by decide)).grown hg8 (box_ne_own (HX6.out.cured HC6.out HG7.out (by decide)) hrow7 (by decide)); have cx8 := hx8.cell; have hov8 := ownsRow_other hov7 hrow7 hg8 (by decide); have cv8 : w8.cell? ⟨ob, v, none⟩ = some rv := (by have h9 := hov8.cellAt v (by omega); rw [get_getD vals v undef (by have := HVL.out; omega), ← HRV.out] at h9; exact h9); have fv8 := hov8.frozenAt v))
            all_goals go_upto_region 15 with fail
            all_goals
              have hcbk : ∀ q, rv.ownBlock = some q → cb < q := fun q hq => by have := (hrow7.lt q hq).1; omega
              have hwk : ∀ q, rv.ownBlock = some q → w.heap.size < q := fun q hq => by have := (hrow7.lt q hq).1; omega
              have hDc : Dis w7 w1.heap.size g.length vals g := ⟨fun j hj => ownsRow_cured HC6.out HG7.out (by decide) (HROWS.out.rows j hj), HROWS.out.dis⟩
              have hnew : Nums w8 2 .i64 (.slice (some ⟨b8, 0, none⟩) (m + 1) c8) (row g v ++ [z]) := Nums.of_owns (by rw [List.map_append]; exact hown8) (by rw [List.length_append, List.length_singleton, HM.out]) (by omega)
              have HPUT := Lib.hid (dg_app (by have := HVL.out; exact this) hov7 hDc HRV.out (fun j _ => Nat.le_trans (HRL.out j) (by decide)) hrow7 hg8 hnew hvg (by omega))
              have HC8 := Lib.hid ((HC7.out.over hg8 hcbk).over HPUT.out.2 (fun q hq => by cases hq; omega))
              have HG8 := Lib.hid (grown_over (grown_over (grown_trans HG6.out HG7.out) hg8 (fun q hq => by have := hwk q hq; omega)) HPUT.out.2 (fun q hq => by cases hq; omega))
              have HR8 := Lib.hid (((HR6.out.cured HC6.out HG7.out (by decide)).grown hg8 (fun e => by have := hwk _ e.symm; omega)).grown HPUT.out.2 (fun e => by have e2 : w.heap.size = ob := (by simpa using e); omega))
              have HX8 := Lib.hid (hx8.grown HPUT.out.2 (fun e => by have e2 : b5 = ob := (by simpa using e); omega))
              have HGR8 := Lib.hid HPUT.out.1
              rw [List.length_set] at HGR8
              obtain ⟨w9, hw9⟩ : ∃ w9, w9 = w8.setCell ⟨ob, v, none⟩ (.slice (some ⟨b8, 0, none⟩) (m + 1) c8) := ⟨_, rfl⟩
              rw [← hw9] at HC8 HG8 HR8 HX8 HGR8 ⊢
              have cx9 := HX8.out.cell
              clear hw9 HPUT cx8 cv8 fv8 hov8 hx8 hnew hDc hown8 hg8 hrow7 hov7 cx7 cv7 fv7 cx7a cv7a cx6 fx6 hcv hfv
              obtain ⟨nc, nf, nl, nB⟩ := id HR8.out
              go_wp2
              refine bodyPost_ret (v := .agg #[.slice (some ⟨ob, 0, none⟩) g.length c]) (by simp [results, Tryd.results159, go_sem, nc]) rfl ⟨_, g.set v (row g v ++ [z]), rfl, ?_, ?_, ?_, ?_, ?_⟩
              · exact gr_setBox HGR8.out HR8.out _
              · rw [List.length_set]; omega
              · exact row_set_le hvg (fun j => Nat.le_trans (HRL.out j) (by decide)) (by rw [List.length_append, List.length_singleton]; have := HRL.out v; omega)
              · exact (HC8.out).setCell hcb _
              · exact grown_newD (HG8.out) (Nat.le_refl _) _

end Go.Proofs.YtiooindlpinjhaaDoor
