/- Walks: the reference's draws: numbers (l1New, l1Byte, l1Below, l1Once). -/
import Derived.Test.YtkppbmfliejnmaaDoorKnQ24
import Derived.Test.YtkppbmfliejnmaaDoorKnQ17
import Derived.Deep.RegionLaw
import Derived.Deep.DeepCutAuto
import Derived.Deep.RegionHeld3
namespace Go.Proofs.YtkppbmfliejnmaaDoor
open Go.RowKit

structure BoxC (w : World) (b : Nat) (x y z : Value) : Prop where
  blk : w.heap[b]? = some (.cells #[x, y, z] 153 (0, 0))
section
variable {w w' : World} {b : Nat} {x y z : Value}
theorem BoxC.c0 (h : BoxC w b x y z) : w.cell? ⟨b, 0, none⟩ = some x := by unfold World.cell?; rw [h.blk]; rfl
theorem BoxC.c1 (h : BoxC w b x y z) : w.cell? ⟨b, 1, none⟩ = some y := by unfold World.cell?; rw [h.blk]; rfl
theorem BoxC.c2 (h : BoxC w b x y z) : w.cell? ⟨b, 2, none⟩ = some z := by unfold World.cell?; rw [h.blk]; rfl
theorem BoxC.free (h : BoxC w b x y z) (i : Nat) : w.frozen? ⟨b, i, none⟩ = false := by simp [World.frozen?, h.blk]
theorem BoxC.lt (h : BoxC w b x y z) : b < w.heap.size := lt_of_block h.blk
theorem BoxC.new (w : World) (x y z : Value) : BoxC (w.alloc (.cells #[x, y, z] 153)) w.heap.size x y z := ⟨heap_alloc_new w _⟩
theorem BoxC.to (h : BoxC w b x y z) (hk : w'.heap[b]? = w.heap[b]?) : BoxC w' b x y z := ⟨hk.trans h.blk⟩
theorem BoxC.s1 (h : BoxC w b x y z) (u : Value) : BoxC (w.setCell ⟨b, 1, none⟩ u) b x u z := ⟨by have := heap_setCell_same w b 1 _ _ u h.blk; simpa using this⟩
theorem BoxC.s2 (h : BoxC w b x y z) (u : Value) : BoxC (w.setCell ⟨b, 2, none⟩ u) b x y u := ⟨by have := heap_setCell_same w b 2 _ _ u h.blk; simpa using this⟩
theorem BoxC.keep (h : BoxC w b x y z) (hb : Below w.heap.size w w') : BoxC w' b x y z := h.to (hb.block b h.lt)
end
theorem grown_setCell (w : World) (b i : Nat) (u : Value) : w.grownBy (w.setCell ⟨b, i, none⟩ u) (some b) :=
  ⟨rfl, rfl, rfl, by rw [World.size_setCell]; exact Nat.le_refl _, fun k _ hne => Below.heap_setCell _ _ _ _ (fun e => hne (by simp only at e; rw [e]))⟩

/-- The cursor stands in block cb: the bytes, how many were read, a number. -/
structure Cur (w0 w : World) (cb : Nat) (bs : List Int) : Prop where
  ex : ∃ (bv : Value) (i : Nat) (h : Int), BoxC w cb bv (.int .i64 i) (.int .i64 h) ∧ i ≤ bs.length ∧ ArgB w0 bv bs
  few : bs.length ≤ 4096
  lo : w0.heap.size ≤ cb
  bel : Below w0.heap.size w0 w
theorem Cur.keep {w0 w w' : World} {cb : Nat} {bs : List Int} (h : Cur w0 w cb bs) (hb : Below w.heap.size w w') : Cur w0 w' cb bs := by
  obtain ⟨bv, i, z, h1, h2, h3⟩ := h.ex
  exact ⟨⟨bv, i, z, h1.keep hb, h2, h3⟩, h.few, h.lo, h.bel.trans (hb.mono h.bel.size)⟩
theorem below_grownC {w0 w w' : World} {cb : Nat} (h : Below w0.heap.size w0 w) (hg : w.grownBy w' (some cb)) (hl : w0.heap.size ≤ cb) : Below w0.heap.size w0 w' :=
  ⟨hg.os.trans h.os, hg.tape.trans h.tape, hg.output.trans h.output, Nat.le_trans h.size hg.size, fun k hk => (hg.block k (Nat.lt_of_lt_of_le hk h.size) (fun e => by simp only [Option.some.injEq] at e; omega)).trans (h.block k hk)⟩
theorem and255 (x : Int) : ∃ r : Nat, bits BinOp.and IntKind.i64 x 255 = (r : Int) ∧ r ≤ 255 := by
  refine ⟨(BitVec.ofInt 64 x &&& BitVec.ofInt 64 255).toNat, ?_, ?_⟩
  · show IntKind.i64.wrap ((BitVec.ofInt 64 x &&& BitVec.ofInt 64 255).toNat : Int) = _
    have h : (BitVec.ofInt 64 x &&& BitVec.ofInt 64 255).toNat ≤ 255 := by
      rw [BitVec.toNat_and]
      exact Nat.le_trans Nat.and_le_right (by decide)
    rw [IntKind.wrap_i64]
    omega
  · rw [BitVec.toNat_and]
    exact Nat.le_trans Nat.and_le_right (by decide)

set_option maxRecDepth 100000 in
set_option maxHeartbeats 4000000 in
theorem l1Byte_any (w0 : World) (cb : Nat) (bs : List Int) (w : World) (hc : Cur w0 w cb bs) :
    Calls Tryd.prog 208 #[.pointer (some ⟨cb, 0, none⟩)] w fun e w' => ∃ r : Nat, e = .returned (.int .i64 (r : Int)) ∧ r ≤ 255 ∧ Cur w0 w' cb bs ∧ w.grownBy w' (some cb) := by
  obtain ⟨⟨bv, i, h, hb, hi, ha⟩, few, lo, bel⟩ := hc
  obtain ⟨bp, bc, e, ha2⟩ := id ha
  subst e
  have c2 := hb.c2
  have f2 := hb.free 2
  obtain ⟨w1, hw1⟩ : ∃ w1, w1 = w := ⟨_, rfl⟩
  have HB := Lib.hid hb
  have HA := Lib.hid ha
  have HBEL := Lib.hid bel
  clear ha2 ha hb bel
  go_enter Tryd.func208, Tryd.ntmps208
  go_upto_region 1 with fail
  go_cut [12] (fun _ wx => ∃ h2 : Int, wx = w.setCell ⟨cb, 2, none⟩ (.int .i64 h2))
  case first =>
    go_wp2
    go_meet
    exact ⟨_, rfl⟩
  case rest =>
    obtain ⟨h2, rfl⟩ := hcut
    have HB2 := Lib.hid (HB.out.s2 (.int .i64 h2))
    have HG2 := Lib.hid (grown_setCell w cb 2 (.int .i64 h2))
    have c2 := HB2.out.c2
    obtain ⟨w2, hw2⟩ : ∃ w2, w2 = w.setCell ⟨cb, 2, none⟩ (.int .i64 h2) := ⟨_, rfl⟩
    rw [← hw2] at c2 HB2 HG2 ⊢
    clear hw2 f2 hw1
    go_upto_region 2 with fail
    go_cut [3] (fun s wx => ∃ r : Nat, s = .int .i64 (r : Int) ∧ r ≤ 255 ∧ Below w2.heap.size w2 wx)
    case first =>
      go_region_held3 (fun w' => w'.cell? ⟨cb, 2, none⟩ = some (.int .i64 h2))
        (first | go_keep | exact c2)
        (fail)
      all_goals go_wp2
      all_goals go_meet
      all_goals
        obtain ⟨r, e, hr⟩ := and255 (bits BinOp.xor IntKind.i64 (h2 / 2 ^ 33) (h2 / 2 ^ 45))
        exact ⟨r, by rw [← e]; rfl, hr, below_dN (Below.refl _ _) _⟩
    case rest =>
      obtain ⟨r, rfl, hr, hb3⟩ := hcut
      have HB3 := Lib.hid (HB2.out.keep hb3)
      have HG3 := Lib.hid (grown_trans HG2.out (grown_of_below hb3 _))
      have c0 := HB3.out.c0
      have c1 := HB3.out.c1
      clear c2 hb3
      go_upto_region 3 with fail
      go_cut [34] (fun s wx => s = .bool (decide (i < bs.length)) ∧ Below wc.heap.size wc wx)
      case first =>
        go_region_held3 (fun w' => w'.cell? ⟨cb, 1, none⟩ = some (.int .i64 i) ∧ w'.cell? ⟨cb, 0, none⟩ = some (.slice bp bs.length bc))
          (first | go_keep | exact ⟨c1, c0⟩)
          (fail)
        all_goals go_wp2
        all_goals go_meet
        all_goals exact ⟨rfl, below_dN (Below.refl _ _) _⟩
      case rest =>
        obtain ⟨rfl, hb4⟩ := hcut
        have HB4 := Lib.hid (HB3.out.keep hb4)
        have HG4 := Lib.hid (grown_trans HG3.out (grown_of_below hb4 _))
        have HL4 := Lib.hid (below_grownC HBEL.out HG4.out lo)
        have c0 := HB4.out.c0
        have c1 := HB4.out.c1
        clear hb4
        by_cases hlt : i < bs.length
        · obtain ⟨xb, xo, rfl, hcx, hx0, hx1⟩ := (HA.out.below HL4.out).get hlt
          generalize bs[i] = x at hcx hx0 hx1
          have hdt : decide (i < bs.length) = true := by simp [hlt]
          have e0 : (0 : Int) ≤ (i : Int) := by omega
          have e1 : (i : Int) < (bs.length : Int) := by omega
          go_upto_region 4 with fail
          go_cut [3] (fun s wx => ∃ r : Nat, s = .int .i64 (r : Int) ∧ r ≤ 255 ∧ Below wc.heap.size wc wx)
          case first =>
            go_region_held3 (fun w' => w'.cell? ⟨cb, 1, none⟩ = some (.int .i64 i) ∧ w'.cell? ⟨cb, 0, none⟩ = some (.slice (some ⟨xb, xo, none⟩) bs.length bc) ∧ w'.cell? ⟨xb, xo + i, none⟩ = some (.int .u8 x))
              (first | go_keep | exact ⟨c1, c0, hcx⟩)
              (fail)
            all_goals go_wp2
            all_goals go_meet
            all_goals
              refine (and255 ?_).elim fun r' he => ⟨r', by rw [← he.1], he.2, below_dN (Below.refl _ _) _⟩
          case rest =>
            obtain ⟨r2, rfl, hr2, hb5⟩ := hcut
            have HB5 := Lib.hid (HB4.out.keep hb5)
            have HG5 := Lib.hid (grown_trans HG4.out (grown_of_below hb5 _))
            have c1 := HB5.out.c1
            have f1 := HB5.out.free 1
            clear hb5 hcx c0
            go_wp2
            go_ret
            have HB6 := HB5.out.s1 (.int .i64 ((i + 1 : Nat) : Int))
            have HG6 := grown_trans HG5.out (grown_setCell wc cb 1 (.int .i64 ((i + 1 : Nat) : Int)))
            exact ⟨r2, rfl, hr2, ⟨⟨_, i + 1, h2, HB6, by omega, HA.out⟩, few, lo, below_grownC HBEL.out HG6 lo⟩, HG6⟩
        · have hdt : decide (i < bs.length) = false := by simp [hlt]
          go_wp2
          go_ret
          exact ⟨r, rfl, hr, ⟨⟨_, i, h2, HB4.out, hi, HA.out⟩, few, lo, HL4.out⟩, HG4.out⟩

set_option maxRecDepth 100000 in
set_option maxHeartbeats 4000000 in
theorem l1Below_any (w0 : World) (cb : Nat) (bs : List Int) (n : Int) (hn : n ≤ 9223372036854775807) (w : World) (hc : Cur w0 w cb bs) :
    Calls Tryd.prog 148 #[.pointer (some ⟨cb, 0, none⟩), .int .i64 n] w fun e w' => ∃ r : Nat, e = .returned (.int .i64 (r : Int)) ∧ (0 < n → (r : Int) < n) ∧ (n ≤ 0 → r = 0) ∧ Cur w0 w' cb bs ∧ w.grownBy w' (some cb) := by
  have HC := Lib.hid hc
  clear hc
  by_cases h0 : n ≤ 0
  · go_enter Tryd.func148, Tryd.ntmps148
    go_wp2
    go_ret
    exact ⟨0, rfl, fun h => by omega, fun _ => rfl, HC.out, grown_of_below (Below.refl _ _) _⟩
  · obtain ⟨k, rfl⟩ : ∃ k : Nat, n = (k : Int) := ⟨n.toNat, by omega⟩
    have hkp : 0 < k := by omega
    have hk0 : ((k : Int) == 0) = false := by simp; omega
    have htm : ∀ r : Nat, Int.tmod (r : Int) (k : Int) = ((r % k : Nat) : Int) := fun r => (Int.ofNat_tmod r k).symm
    have HML : Hid (∀ r : Nat, r % k < k) := Lib.hid (fun r => Nat.mod_lt r hkp)
    by_cases h256 : (k : Int) ≤ 256
    · go_enter Tryd.func148, Tryd.ntmps148
      go_wp2_with (go_at_call 208; refine (l1Byte_any w0 cb bs _ HC.out).mono ?_; rintro e w2 ⟨r, rfl, hr, hc2, hg2⟩; have HC2 := Lib.hid hc2; have HG2 := Lib.hid hg2; clear hc2 hg2)
      go_ret
      exact ⟨r % k, rfl, fun _ => by have := HML.out r; omega, fun h => by omega, HC2.out, HG2.out⟩
    · go_enter Tryd.func148, Tryd.ntmps148
      go_upto_region 6 with (go_at_call 208; refine (l1Byte_any w0 cb bs _ HC.out).mono ?_; rintro e w2 ⟨r1, rfl, hr1, hc2, hg2⟩; have HC2 := Lib.hid hc2; have HG2 := Lib.hid hg2; clear hc2 hg2)
      go_upto_region 7 with (go_at_call 208; refine (l1Byte_any w0 cb bs _ HC2.out).mono ?_; rintro e w3 ⟨r2, rfl, hr2, hc2, hg2⟩; have HC3 := Lib.hid hc2; have HG3 := Lib.hid (grown_trans HG2.out hg2); clear hc2 hg2)
      go_upto_region 8 with (go_at_call 208; refine (l1Byte_any w0 cb bs _ HC3.out).mono ?_; rintro e w4 ⟨r3, rfl, hr3, hc2, hg2⟩; have HC4 := Lib.hid hc2; have HG4 := Lib.hid (grown_trans HG3.out hg2); clear hc2 hg2)
      go_upto_region 9 with (go_at_call 208; refine (l1Byte_any w0 cb bs _ HC4.out).mono ?_; rintro e w5 ⟨r4, rfl, hr4, hc2, hg2⟩; have HC5 := Lib.hid hc2; have HG5 := Lib.hid (grown_trans HG4.out hg2); clear hc2 hg2)
      have hsum : ((r1 : Int) * 16777216 + (r2 : Int) * 65536 + (r3 : Int) * 256 + (r4 : Int)) = ((r1 * 16777216 + r2 * 65536 + r3 * 256 + r4 : Nat) : Int) := by omega
      have htm2 := htm (r1 * 16777216 + r2 * 65536 + r3 * 256 + r4)
      rw [← hsum] at htm2
      have HML2 := Lib.hid (HML.out (r1 * 16777216 + r2 * 65536 + r3 * 256 + r4))
      generalize (r1 * 16777216 + r2 * 65536 + r3 * 256 + r4) % k = r at htm2 HML2
      clear hsum htm
      go_wp2
      go_ret
      exact ⟨r, by first | rfl | (rw [← htm2]; rfl), fun _ => by have := HML2.out; omega, fun h => by omega, HC5.out, HG5.out⟩

set_option maxRecDepth 100000 in
set_option maxHeartbeats 1000000 in
theorem l1Once_any (w0 : World) (cb : Nat) (bs : List Int) (n : Int) (hn : n ≤ 9223372036854775807) (w : World) (hc : Cur w0 w cb bs) :
    Calls Tryd.prog 129 #[.pointer (some ⟨cb, 0, none⟩), .int .i64 n] w fun e w' => ∃ b : Bool, e = .returned (.bool b) ∧ Cur w0 w' cb bs ∧ w.grownBy w' (some cb) := by
  have HC := Lib.hid hc
  clear hc
  go_enter Tryd.func129, Tryd.ntmps129
  go_wp2_with (go_at_call 148; refine (l1Below_any w0 cb bs n hn _ HC.out).mono ?_; rintro e w2 ⟨r, rfl, _, _, hc2, hg2⟩; have HC2 := Lib.hid hc2; have HG2 := Lib.hid hg2; clear hc2 hg2)
  go_ret
  exact ⟨_, rfl, HC2.out, HG2.out⟩

end Go.Proofs.YtkppbmfliejnmaaDoor
