/- Walks: the reference's draws: numbers (l1New, l1Byte, l1Below, l1Once). -/
import Derived.Test.YtjdlmjmhlbpooaaDoorCoQ5
import Derived.Test.YtjdlmjmhlbpooaaDoorCoQ9
import Derived.Deep.RegionLaw
import Derived.Deep.DeepCutAuto
import Derived.Deep.RegionHeld3
import Derived.Test.YtjdlmjmhlbpooaaDoorCoQ8
namespace Go.Proofs.YtjdlmjmhlbpooaaDoor
open Go.RowKit

structure BoxC (w : World) (b : Nat) (x y z : Value) : Prop where
  blk : w.heap[b]? = some (.cells #[x, y, z] 113 (0, 0))
section
variable {w w' : World} {b : Nat} {x y z : Value}
theorem BoxC.c0 (h : BoxC w b x y z) : w.cell? ⟨b, 0, none⟩ = some x := by unfold World.cell?; rw [h.blk]; rfl
theorem BoxC.c1 (h : BoxC w b x y z) : w.cell? ⟨b, 1, none⟩ = some y := by unfold World.cell?; rw [h.blk]; rfl
theorem BoxC.c2 (h : BoxC w b x y z) : w.cell? ⟨b, 2, none⟩ = some z := by unfold World.cell?; rw [h.blk]; rfl
theorem BoxC.free (h : BoxC w b x y z) (i : Nat) : w.frozen? ⟨b, i, none⟩ = false := by simp [World.frozen?, h.blk]
theorem BoxC.lt (h : BoxC w b x y z) : b < w.heap.size := lt_of_block h.blk
theorem BoxC.new (w : World) (x y z : Value) : BoxC (w.alloc (.cells #[x, y, z] 113)) w.heap.size x y z := ⟨heap_alloc_new w _⟩
theorem BoxC.to (h : BoxC w b x y z) (hk : w'.heap[b]? = w.heap[b]?) : BoxC w' b x y z := ⟨hk.trans h.blk⟩
theorem BoxC.s1 (h : BoxC w b x y z) (u : Value) : BoxC (w.setCell ⟨b, 1, none⟩ u) b x u z := ⟨by have := heap_setCell_same w b 1 _ _ u h.blk; simpa using this⟩
theorem BoxC.s2 (h : BoxC w b x y z) (u : Value) : BoxC (w.setCell ⟨b, 2, none⟩ u) b x y u := ⟨by have := heap_setCell_same w b 2 _ _ u h.blk; simpa using this⟩
theorem BoxC.keep (h : BoxC w b x y z) (hb : Below w.heap.size w w') : BoxC w' b x y z := h.to (hb.block b h.lt)
end
theorem grown_setCell (w : World) (b i : Nat) (u : Value) : w.grownBy (w.setCell ⟨b, i, none⟩ u) (some b) :=
  ⟨rfl, rfl, rfl, by rw [World.size_setCell]; exact Nat.le_refl _, fun k _ hne => Below.heap_setCell _ _ _ _ (fun e => hne (by simp only at e; rw [e]))⟩

/-- The cursor stands in block cb: the bytes, how many were read, a number. -/
structure Cur (w0 w : World) (cb : Nat) (bs : List Int) : Prop where
  ex : ∃ (bv : Value) (i : Nat) (h : Int), BoxC w cb bv (.int .i64 i) (.int .i64 h) ∧ i ≤ bs.length ∧ ArgB w0 bv bs
  few : bs.length ≤ 4096
  lo : w0.heap.size ≤ cb
  bel : Below w0.heap.size w0 w
theorem Cur.keep {w0 w w' : World} {cb : Nat} {bs : List Int} (h : Cur w0 w cb bs) (hb : Below w.heap.size w w') : Cur w0 w' cb bs := by
  obtain ⟨bv, i, z, h1, h2, h3⟩ := h.ex
  exact ⟨⟨bv, i, z, h1.keep hb, h2, h3⟩, h.few, h.lo, h.bel.trans (hb.mono h.bel.size)⟩
theorem below_grownC {w0 w w' : World} {cb : Nat} (h : Below w0.heap.size w0 w) (hg : w.grownBy w' (some cb)) (hl : w0.heap.size ≤ cb) : Below w0.heap.size w0 w' :=
  ⟨hg.os.trans h.os, hg.tape.trans h.tape, hg.output.trans h.output, Nat.le_trans h.size hg.size, fun k hk => (hg.block k (Nat.lt_of_lt_of_le hk h.size) (fun e => by simp only [Option.some.injEq] at e; omega)).trans (h.block k hk)⟩
theorem and255 (x : Int) : ∃ r : Nat, bits BinOp.and IntKind.i64 x 255 = (r : Int) ∧ r ≤ 255 := by
  refine ⟨(BitVec.ofInt 64 x &&& BitVec.ofInt 64 255).toNat, ?_, ?_⟩
  · show IntKind.i64.wrap ((BitVec.ofInt 64 x &&& BitVec.ofInt 64 255).toNat : Int) = _
    have h : (BitVec.ofInt 64 x &&& BitVec.ofInt 64 255).toNat ≤ 255 := by
      rw [BitVec.toNat_and]
      exact Nat.le_trans Nat.and_le_right (by decide)
    rw [IntKind.wrap_i64]
    omega
  · rw [BitVec.toNat_and]
    exact Nat.le_trans Nat.and_le_right (by decide)

set_option maxRecDepth 100000 in
set_option maxHeartbeats 4000000 in
theorem l1Byte_any (w0 : World) (cb : Nat) (bs : List Int) (w : World) (hc : Cur w0 w cb bs) :
    Calls Tryd.prog 138 #[.pointer (some ⟨cb, 0, none⟩)] w fun e w' => ∃ r : Nat, e = .returned (.int .i64 (r : Int)) ∧ r ≤ 255 ∧ Cur w0 w' cb bs ∧ w.grownBy w' (some cb) := by
  obtain ⟨⟨bv, i, h, hb, hi, ha⟩, few, lo, bel⟩ := hc
  obtain ⟨bp, bc, e, ha2⟩ := id ha
  subst e
  have c2 := hb.c2
  have f2 := hb.free 2
  obtain ⟨w1, hw1⟩ : ∃ w1, w1 = w := ⟨_, rfl⟩
  have HB := Lib.hid hb
  have HA := Lib.hid ha
  have HBEL := Lib.hid bel
  clear ha2 ha hb bel
  go_enter Tryd.func138, Tryd.ntmps138
  go_upto_region 1 with fail
  go_cut [12] (fun _ wx => ∃ h2 : Int, wx = w.setCell ⟨cb, 2, none⟩ (.int .i64 h2))
  case first =>
    go_wp2
    go_meet
    exact ⟨_, rfl⟩
  case rest =>
    obtain ⟨h2, rfl⟩ := hcut
    have HB2 := Lib.hid (HB.out.s2 (.int .i64 h2))
    have HG2 := Lib.hid (grown_setCell w cb 2 (.int .i64 h2))
    have c2 := HB2.out.c2
    obtain ⟨w2, hw2⟩ : ∃ w2, w2 = w.setCell ⟨cb, 2, none⟩ (.int .i64 h2) := ⟨_, rfl⟩
    rw [← hw2] at c2 HB2 HG2 ⊢
    clear hw2 f2 hw1
    go_upto_region 2 with fail
    go_cut [3] (fun s wx => ∃ r : Nat, s = .int .i64 (r : Int) ∧ r ≤ 255 ∧ Below w2.heap.size w2 wx)
    case first =>
      go_region_held3 (fun w' => w'.cell? ⟨cb, 2, none⟩ = some (.int .i64 h2))
        (first | go_keep | exact c2)
        (fail)
      all_goals go_wp2
      all_goals go_meet
      all_goals
        obtain ⟨r, e, hr⟩ := and255 (bits BinOp.xor IntKind.i64 (h2 / 2 ^ 33) (h2 / 2 ^ 45))
        exact ⟨r, by rw [← e]; rfl, hr, below_dN (Below.refl _ _) _⟩
    case rest =>
      obtain ⟨r, rfl, hr, hb3⟩ := hcut
      have HB3 := Lib.hid (HB2.out.keep hb3)
      have HG3 := Lib.hid (grown_trans HG2.out (grown_of_below hb3 _))
      have c0 := HB3.out.c0
      have c1 := HB3.out.c1
      clear c2 hb3
      go_upto_region 3 with fail
      go_cut [34] (fun s wx => s = .bool (decide (i < bs.length)) ∧ Below wc.heap.size wc wx)
      case first =>
        go_region_held3 (fun w' => w'.cell? ⟨cb, 1, none⟩ = some (.int .i64 i) ∧ w'.cell? ⟨cb, 0, none⟩ = some (.slice bp bs.length bc))
          (first | go_keep | exact ⟨c1, c0⟩)
          (fail)
        all_goals go_wp2
        all_goals go_meet
        all_goals exact ⟨rfl, below_dN (Below.refl _ _) _⟩
      case rest =>
        obtain ⟨rfl, hb4⟩ := hcut
        have HB4 := Lib.hid (HB3.out.keep hb4)
        have HG4 := Lib.hid (grown_trans HG3.out (grown_of_below hb4 _))
        have HL4 := Lib.hid (below_grownC HBEL.out HG4.out lo)
        have c0 := HB4.out.c0
        have c1 := HB4.out.c1
        clear hb4
        by_cases hlt : i < bs.length
        · obtain ⟨xb, xo, rfl, hcx, hx0, hx1⟩ := (HA.out.below HL4.out).get hlt
          generalize bs[i] = x at hcx hx0 hx1
          have hdt : decide (i < bs.length) = true := by simp [hlt]
          have e0 : (0 : Int) ≤ (i : Int) := by omega
          have e1 : (i : Int) < (bs.length : Int) := by omega
          go_upto_region 4 with fail
          go_cut [3] (fun s wx => ∃ r : Nat, s = .int .i64 (r : Int) ∧ r ≤ 255 ∧ Below wc.heap.size wc wx)
          case first =>
            go_region_held3 (fun w' => w'.cell? ⟨cb, 1, none⟩ = some (.int .i64 i) ∧ w'.cell? ⟨cb, 0, none⟩ = some (.slice (some ⟨xb, xo, none⟩) bs.length bc) ∧ w'.cell? ⟨xb, xo + i, none⟩ = some (.int .u8 x))
              (first | go_keep | exact ⟨c1, c0, hcx⟩)
              (fail)
            all_goals go_wp2
            all_goals go_meet
            all_goals
              refine (and255 ?_).elim fun r' he => ⟨r', by rw [← he.1], he.2, below_dN (Below.refl _ _) _⟩
          case rest =>
            obtain ⟨r2, rfl, hr2, hb5⟩ := hcut
            have HB5 := Lib.hid (HB4.out.keep hb5)
            have HG5 := Lib.hid (grown_trans HG4.out (grown_of_below hb5 _))
            have c1 := HB5.out.c1
            have f1 := HB5.out.free 1
            clear hb5 hcx c0
            go_wp2
            go_ret
            have HB6 := HB5.out.s1 (.int .i64 ((i + 1 : Nat) : Int))
            have HG6 := grown_trans HG5.out (grown_setCell wc cb 1 (.int .i64 ((i + 1 : Nat) : Int)))
            exact ⟨r2, rfl, hr2, ⟨⟨_, i + 1, h2, HB6, by omega, HA.out⟩, few, lo, below_grownC HBEL.out HG6 lo⟩, HG6⟩
        · have hdt : decide (i < bs.length) = false := by simp [hlt]
          go_wp2
          go_ret
          exact ⟨r, rfl, hr, ⟨⟨_, i, h2, HB4.out, hi, HA.out⟩, few, lo, HL4.out⟩, HG4.out⟩

set_option maxRecDepth 100000 in
set_option maxHeartbeats 4000000 in
theorem l1Below_any (w0 : World) (cb : Nat) (bs : List Int) (n : Int) (hn : n ≤ 9223372036854775807) (w : World) (hc : Cur w0 w cb bs) :
    Calls Tryd.prog 125 #[.pointer (some ⟨cb, 0, none⟩), .int .i64 n] w fun e w' => ∃ r : Nat, e = .returned (.int .i64 (r : Int)) ∧ (0 < n → (r : Int) < n) ∧ (n ≤ 0 → r = 0) ∧ Cur w0 w' cb bs ∧ w.grownBy w' (some cb) := by
  have HC := Lib.hid hc
  clear hc
  by_cases h0 : n ≤ 0
  · go_enter Tryd.func125, Tryd.ntmps125
    go_wp2
    go_ret
    exact ⟨0, rfl, fun h => by omega, fun _ => rfl, HC.out, grown_of_below (Below.refl _ _) _⟩
  · obtain ⟨k, rfl⟩ : ∃ k : Nat, n = (k : Int) := ⟨n.toNat, by omega⟩
    have hkp : 0 < k := by omega
    have hk0 : ((k : Int) == 0) = false := by simp; omega
    have htm : ∀ r : Nat, Int.tmod (r : Int) (k : Int) = ((r % k : Nat) : Int) := fun r => (Int.ofNat_tmod r k).symm
    have HML : Hid (∀ r : Nat, r % k < k) := Lib.hid (fun r => Nat.mod_lt r hkp)
    by_cases h256 : (k : Int) ≤ 256
    · go_enter Tryd.func125, Tryd.ntmps125
      go_wp2_with (go_at_call 138; refine (l1Byte_any w0 cb bs _ HC.out).mono ?_; rintro e w2 ⟨r, rfl, hr, hc2, hg2⟩; have HC2 := Lib.hid hc2; have HG2 := Lib.hid hg2; clear hc2 hg2)
      go_ret
      exact ⟨r % k, rfl, fun _ => by have := HML.out r; omega, fun h => by omega, HC2.out, HG2.out⟩
    · go_enter Tryd.func125, Tryd.ntmps125
      go_upto_region 6 with (go_at_call 138; refine (l1Byte_any w0 cb bs _ HC.out).mono ?_; rintro e w2 ⟨r1, rfl, hr1, hc2, hg2⟩; have HC2 := Lib.hid hc2; have HG2 := Lib.hid hg2; clear hc2 hg2)
      go_upto_region 7 with (go_at_call 138; refine (l1Byte_any w0 cb bs _ HC2.out).mono ?_; rintro e w3 ⟨r2, rfl, hr2, hc2, hg2⟩; have HC3 := Lib.hid hc2; have HG3 := Lib.hid (grown_trans HG2.out hg2); clear hc2 hg2)
      go_upto_region 8 with (go_at_call 138; refine (l1Byte_any w0 cb bs _ HC3.out).mono ?_; rintro e w4 ⟨r3, rfl, hr3, hc2, hg2⟩; have HC4 := Lib.hid hc2; have HG4 := Lib.hid (grown_trans HG3.out hg2); clear hc2 hg2)
      go_upto_region 9 with (go_at_call 138; refine (l1Byte_any w0 cb bs _ HC4.out).mono ?_; rintro e w5 ⟨r4, rfl, hr4, hc2, hg2⟩; have HC5 := Lib.hid hc2; have HG5 := Lib.hid (grown_trans HG4.out hg2); clear hc2 hg2)
      have hsum : ((r1 : Int) * 16777216 + (r2 : Int) * 65536 + (r3 : Int) * 256 + (r4 : Int)) = ((r1 * 16777216 + r2 * 65536 + r3 * 256 + r4 : Nat) : Int) := by omega
      have htm2 := htm (r1 * 16777216 + r2 * 65536 + r3 * 256 + r4)
      rw [← hsum] at htm2
      have HML2 := Lib.hid (HML.out (r1 * 16777216 + r2 * 65536 + r3 * 256 + r4))
      generalize (r1 * 16777216 + r2 * 65536 + r3 * 256 + r4) % k = r at htm2 HML2
      clear hsum htm
      go_wp2
      go_ret
      exact ⟨r, by first | rfl | (rw [← htm2]; rfl), fun _ => by have := HML2.out; omega, fun h => by omega, HC5.out, HG5.out⟩

set_option maxRecDepth 100000 in
set_option maxHeartbeats 1000000 in
theorem l1Once_any (w0 : World) (cb : Nat) (bs : List Int) (n : Int) (hn : n ≤ 9223372036854775807) (w : World) (hc : Cur w0 w cb bs) :
    Calls Tryd.prog 124 #[.pointer (some ⟨cb, 0, none⟩), .int .i64 n] w fun e w' => ∃ b : Bool, e = .returned (.bool b) ∧ Cur w0 w' cb bs ∧ w.grownBy w' (some cb) := by
  have HC := Lib.hid hc
  clear hc
  go_enter Tryd.func124, Tryd.ntmps124
  go_wp2_with (go_at_call 125; refine (l1Below_any w0 cb bs n hn _ HC.out).mono ?_; rintro e w2 ⟨r, rfl, _, _, hc2, hg2⟩; have HC2 := Lib.hid hc2; have HG2 := Lib.hid hg2; clear hc2 hg2)
  go_ret
  exact ⟨_, rfl, HC2.out, HG2.out⟩

end Go.Proofs.YtjdlmjmhlbpooaaDoor

/- Plain: the neighbours among some vertices, as masks. -/
namespace Go.Proofs.YtjdlmjmhlbpooaaDoor

theorem mask_bit (l : List Nat) (j : Nat) : (mask (natInts l)).testBit j = decide (j ∈ l) := by
  rw [testBit_mask, Bool.eq_iff_iff]
  simp [natInts]
theorem mask_nat_lt16 {l : List Nat} (h : ∀ i ∈ l, i < 16) : mask (natInts l) < 65536 := mask_lt16 _ fun x hx => by
  obtain ⟨i, hi, rfl⟩ := mem_natInts.1 hx
  have := h i hi
  omega
def indN (m : Nat) (E : Nat → Nat → Bool) : List Nat := (List.range m).map fun r => mask (natInts ((List.range m).filter (E r)))
theorem indN_length (m : Nat) (E : Nat → Nat → Bool) : (indN m E).length = m := by simp [indN]
theorem indN_get {m : Nat} {E : Nat → Nat → Bool} {r : Nat} (h : r < m) : (indN m E).getD r 0 = mask (natInts ((List.range m).filter (E r))) := by simp [indN, h]
theorem indN_bit {m : Nat} {E : Nat → Nat → Bool} {r : Nat} (h : r < m) (j : Nat) : ((indN m E).getD r 0).testBit j = (decide (j < m) && E r j) := by
  rw [indN_get h, mask_bit, Bool.eq_iff_iff]
  simp
theorem indN_lt16 {m : Nat} {E : Nat → Nat → Bool} (hm : m ≤ 16) : ∀ s ∈ indN m E, s < 65536 := by
  intro s hs
  simp only [indN, List.mem_map, List.mem_range] at hs
  obtain ⟨r, hr, rfl⟩ := hs
  exact mask_nat_lt16 fun i hi => by simp only [List.mem_filter, List.mem_range] at hi; omega
theorem natList_ext {a b : List Nat} (hl : a.length = b.length) (h : ∀ r, r < a.length → a.getD r 0 = b.getD r 0) : a = b := by
  refine List.ext_getElem hl fun j h1 h2 => ?_
  have := h j h1
  simpa [h1, h2] using this
theorem indN_congr {m : Nat} {E F : Nat → Nat → Bool} (h : ∀ r j, r < m → j < m → E r j = F r j) : indN m E = indN m F := by
  refine natList_ext (by simp [indN_length]) fun r hr => ?_
  rw [indN_length] at hr
  refine Nat.eq_of_testBit_eq fun j => ?_
  rw [indN_bit hr, indN_bit hr]
  by_cases hj : j < m
  · simp [h r j hr hj]
  · simp [hj]
theorem indN_none (m : Nat) {E : Nat → Nat → Bool} (h : ∀ r j, r < m → j < m → E r j = false) : indN m E = List.replicate m 0 := by
  refine natList_ext (by simp [indN_length]) fun r hr => ?_
  rw [indN_length] at hr
  refine Nat.eq_of_testBit_eq fun j => ?_
  rw [indN_bit hr]
  by_cases hj : j < m
  · simp [h r j hr hj, hr]
  · simp [hj, hr]
def rowsE (E : Nat → Nat → Bool) (i k : Nat) : Nat → Nat → Bool := fun r j => E r j && (decide (r < i) || (decide (r = i) && decide (j < k)))
theorem rows_start (m : Nat) (E : Nat → Nat → Bool) : indN m (rowsE E 0 0) = List.replicate m 0 := indN_none m fun r j _ _ => by simp [rowsE]
theorem rows_row {m : Nat} {E : Nat → Nat → Bool} {i : Nat} : indN m (rowsE E i m) = indN m (rowsE E (i + 1) 0) := by
  refine indN_congr fun r j hr hj => ?_
  unfold rowsE
  congr 1
  by_cases h1 : r < i
  · simp [h1, show r < i + 1 by omega]
  · by_cases h2 : r = i
    · simp [h2, hj]
    · simp [h1, h2, show ¬ r < i + 1 by omega]
theorem rows_end {m : Nat} {E : Nat → Nat → Bool} : indN m (rowsE E m 0) = indN m E := indN_congr fun r j hr hj => by simp [rowsE, hr]
theorem rows_yes {m : Nat} {E : Nat → Nat → Bool} {i k : Nat} (hi : i < m) (hk : k < m) (he : E i k = true) :
    (indN m (rowsE E i k)).set i ((indN m (rowsE E i k)).getD i 0 ||| 2 ^ k) = indN m (rowsE E i (k + 1)) := by
  refine natList_ext (by simp [indN_length]) fun r hr => ?_
  rw [List.length_set, indN_length] at hr
  have hl := indN_length m (rowsE E i k)
  rw [getD_set _ _ _ _ (by omega)]
  refine Nat.eq_of_testBit_eq fun j => ?_
  by_cases e : r = i
  · subst e
    rw [if_pos rfl, Nat.testBit_or, indN_bit hr, indN_bit hr, testBit_pow]
    unfold rowsE
    by_cases h1 : k = j
    · subst h1; simp [he, hk]
    · have : j < k ↔ j < k + 1 := by omega
      simp [h1, this]
  · rw [if_neg e, indN_bit hr, indN_bit hr]
    unfold rowsE
    simp [e]
theorem rows_no {m : Nat} {E : Nat → Nat → Bool} {i k : Nat} (he : E i k = false) : indN m (rowsE E i k) = indN m (rowsE E i (k + 1)) := by
  refine indN_congr fun r j hr hj => ?_
  unfold rowsE
  by_cases h : r = i ∧ j = k
  · obtain ⟨rfl, rfl⟩ := h; simp [he]
  · congr 2
    by_cases e : r = i
    · have : j < k ↔ j < k + 1 := by omega
      simp [this]
    · simp [e]
/-- The masks' graph. -/
theorem indN_rows {m : Nat} (hm : m ≤ 16) {E : Nat → Nat → Bool} {r : Nat} (hr : r < m) : natInts (bitsOf ((indN m E).getD r 0)) = row (matG m E) r := by
  have h16 : (indN m E).getD r 0 < 65536 := lt16_getD (indN_lt16 hm) r
  refine rising_ext_int _ _ (natInts_rising (bitsOf_rising _)) (matG_rising hr) fun x => ?_
  rw [mem_natInts, mem_matG hr]
  constructor
  · rintro ⟨j, hj, rfl⟩
    rw [mem_bitsOf' (by omega), indN_bit hr] at hj
    simp only [Bool.and_eq_true, decide_eq_true_eq] at hj
    exact ⟨j, rfl, hj.1, hj.2⟩
  · rintro ⟨j, rfl, h1, h2⟩
    exact ⟨j, by rw [mem_bitsOf' (by omega), indN_bit hr]; simp [h1, h2], rfl⟩

/-- The edges among the bits of a set, in masks that are a graph's rows. -/
def bitE (a : List Nat) (l : List Nat) : Nat → Nat → Bool := fun r j => (a.getD (l.getD r 0) 0).testBit (l.getD j 0)
theorem bitE_ind {g : List (List Int)} {L : List Int} {a : List Nat} {left : Nat} (h : Same g L a left) : indL g L = matG (bitsOf left).length (bitE a (bitsOf left)) := by
  have hL := h.list
  subst hL
  unfold indL
  rw [natInts_length]
  refine matG_congr fun r j hr hj => ?_
  unfold indE bitE
  have e1 : (natInts (bitsOf left)).getD r 0 = (((bitsOf left)[r] : Nat) : Int) := by simp [natInts, hr]
  have e2 : (natInts (bitsOf left)).getD j 0 = (((bitsOf left)[j] : Nat) : Int) := by simp [natInts, hj]
  rw [e1, e2, Int.toNat_natCast]
  have hl16 := h.left16
  have hr' := (mem_bitsOf' (by omega)).1 (List.getElem_mem hr)
  have hj' := (mem_bitsOf' (by omega)).1 (List.getElem_mem hj)
  rw [h.rows _ hr', Bool.eq_iff_iff, decide_eq_true_eq, mem_near hl16]
  have f1 : (bitsOf left).getD r 0 = (bitsOf left)[r] := by simp [hr]
  have f2 : (bitsOf left).getD j 0 = (bitsOf left)[j] := by simp [hj]
  rw [f1, f2]
  constructor
  · rintro ⟨i, hi, h1, _⟩
    obtain rfl : i = (bitsOf left)[j] := by omega
    exact h1
  · intro h1
    exact ⟨_, rfl, h1, hj'⟩

end Go.Proofs.YtjdlmjmhlbpooaaDoor

/- Plain: orders of all vertices. -/
namespace Go.Proofs.YtjdlmjmhlbpooaaDoor

/-- An order of the numbers below n. -/
def OrdOk (n : Nat) (l : List Int) : Prop := l.length = n ∧ (∀ x ∈ l, 0 ≤ x ∧ x < n) ∧ l.Nodup

theorem strict_of {l : List Int} (h : l.Pairwise (· ≤ ·)) (hn : l.Nodup) : l.Pairwise (· < ·) := by
  induction l with
  | nil => exact List.Pairwise.nil
  | cons x l ih =>
    rw [List.pairwise_cons] at h
    rw [List.nodup_cons] at hn
    rw [List.pairwise_cons]
    refine ⟨fun y hy => ?_, ih h.2 hn.2⟩
    have h1 := h.1 y hy
    by_cases e : x = y
    · subst e; exact absurd hy hn.1
    · omega
theorem nodup_of {l : List Int} (h : l.Pairwise (· < ·)) : l.Nodup := by
  unfold List.Nodup
  exact h.imp fun hx e => by omega

theorem setIn_sort {n : Int} {l : List Int} : SetIn n (l.mergeSort fun x y => decide (x ≤ y)) ↔ (∀ x ∈ l, 0 ≤ x ∧ x < n) ∧ l.Nodup := by
  have hp := List.mergeSort_perm l (fun x y => decide (x ≤ y))
  have hs : (l.mergeSort fun x y => decide (x ≤ y)).Pairwise (fun a b => decide (a ≤ b) = true) :=
    List.pairwise_mergeSort (fun a b c h1 h2 => by simp only [decide_eq_true_eq] at *; omega) (fun a b => by simp only [Bool.or_eq_true, decide_eq_true_eq]; omega) l
  have hs' : (l.mergeSort fun x y => decide (x ≤ y)).Pairwise (· ≤ ·) := hs.imp fun h => by simpa using h
  constructor
  · rintro ⟨h1, h2⟩
    exact ⟨fun x hx => h1 x (hp.mem_iff.2 hx), hp.nodup_iff.1 (nodup_of h2)⟩
  · rintro ⟨h1, h2⟩
    exact ⟨fun x hx => h1 x (hp.mem_iff.1 hx), strict_of hs' (hp.nodup_iff.2 h2)⟩

theorem ordOk_sort {n : Nat} {l : List Int} (hl : l.length = n) : SetIn n (l.mergeSort fun x y => decide (x ≤ y)) ↔ OrdOk n l := by
  rw [setIn_sort]
  exact ⟨fun h => ⟨hl, h.1, h.2⟩, fun h => ⟨h.2.1, h.2.2⟩⟩

theorem nodup_snoc {l : List Int} {x : Int} : (l ++ [x]).Nodup ↔ l.Nodup ∧ x ∉ l := by
  rw [List.nodup_append]
  constructor
  · rintro ⟨h1, _, h2⟩
    exact ⟨h1, fun h => h2 x h x (by simp) rfl⟩
  · rintro ⟨h1, h2⟩
    refine ⟨h1, by simp, fun a ha b hb e => ?_⟩
    simp only [List.mem_singleton] at hb
    subst hb; subst e
    exact h2 ha

theorem ordE_sym {g : List (List Int)} (hg : GOk g) {l : List Int} (hl : OrdOk g.length l) : SymE l.length (indE g l) := indE_sym hg hl.2.1

/-- What Renamed returns. -/
def RenS (g : List (List Int)) (l : List Int) (gg : List (List Int)) (ok : Bool) : Prop :=
  (ok = true ∧ GOk g ∧ OrdOk g.length l ∧ gg = indL g l) ∨ (ok = false ∧ gg = [] ∧ ¬ (GOk g ∧ OrdOk g.length l))
theorem renS_det {g gg hh : List (List Int)} {l : List Int} {ok ok' : Bool} (h : RenS g l gg ok) (h' : RenS g l hh ok') : gg = hh ∧ ok = ok' := by
  rcases h with ⟨rfl, h1, h2, rfl⟩ | ⟨rfl, rfl, h⟩ <;> rcases h' with ⟨rfl, h1', h2', rfl⟩ | ⟨rfl, rfl, h'⟩
  · exact ⟨rfl, rfl⟩
  · exact absurd ⟨h1, h2⟩ h'
  · exact absurd ⟨h1', h2'⟩ h
  · exact ⟨rfl, rfl⟩

/-- The edges among listed vertices, in masks. -/
theorem bitE_netL {g : List (List Int)} (hg : GOk g) {l : List Nat} (hl : ∀ v ∈ l, v < g.length) : indL g (natInts l) = matG l.length (bitE (netL g) l) := by
  unfold indL
  rw [natInts_length]
  refine matG_congr fun r j hr hj => ?_
  unfold indE bitE
  have e1 : (natInts l).getD r 0 = ((l[r] : Nat) : Int) := by simp [natInts, hr]
  have e2 : (natInts l).getD j 0 = ((l[j] : Nat) : Int) := by simp [natInts, hj]
  have f1 : l.getD r 0 = l[r] := by simp [hr]
  have f2 : l.getD j 0 = l[j] := by simp [hj]
  rw [e1, e2, f1, f2, Int.toNat_natCast, netL_getD, Bool.eq_iff_iff, decide_eq_true_eq]
  exact (testBit_row hg (hl _ (List.getElem_mem hr)) _).symm

end Go.Proofs.YtjdlmjmhlbpooaaDoor
