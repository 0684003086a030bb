/- Walks: the laws' dice (big, roll, below). -/
import Derived.Test.YtjdlmjmhlbpooaaDoorPtQ7
import Derived.Deep.RegionLaw
import Derived.Deep.DeepCutAuto
import Derived.Deep.RegionHeld3
import Derived.Test.YtjdlmjmhlbpooaaDoorPtQ17
namespace Go.Proofs.YtjdlmjmhlbpooaaDoor
open Go.RowKit

structure BoxD (w : World) (b : Nat) (x y z : Value) : Prop where
  blk : w.heap[b]? = some (.cells #[x, y, z] 79 (0, 0))
section
variable {w w' : World} {b : Nat} {x y z : Value}
theorem BoxD.c0 (h : BoxD w b x y z) : w.cell? ⟨b, 0, none⟩ = some x := by unfold World.cell?; rw [h.blk]; rfl
theorem BoxD.c1 (h : BoxD w b x y z) : w.cell? ⟨b, 1, none⟩ = some y := by unfold World.cell?; rw [h.blk]; rfl
theorem BoxD.c2 (h : BoxD w b x y z) : w.cell? ⟨b, 2, none⟩ = some z := by unfold World.cell?; rw [h.blk]; rfl
theorem BoxD.free (h : BoxD w b x y z) (i : Nat) : w.frozen? ⟨b, i, none⟩ = false := by simp [World.frozen?, h.blk]
theorem BoxD.lt (h : BoxD w b x y z) : b < w.heap.size := lt_of_block h.blk
theorem BoxD.new (w : World) (x y z : Value) : BoxD (w.alloc (.cells #[x, y, z] 79)) w.heap.size x y z := ⟨heap_alloc_new w _⟩
theorem BoxD.to (h : BoxD w b x y z) (hk : w'.heap[b]? = w.heap[b]?) : BoxD w' b x y z := ⟨hk.trans h.blk⟩
theorem BoxD.s1 (h : BoxD w b x y z) (u : Value) : BoxD (w.setCell ⟨b, 1, none⟩ u) b x u z := ⟨by have := heap_setCell_same w b 1 _ _ u h.blk; simpa using this⟩
theorem BoxD.s2 (h : BoxD w b x y z) (u : Value) : BoxD (w.setCell ⟨b, 2, none⟩ u) b x y u := ⟨by have := heap_setCell_same w b 2 _ _ u h.blk; simpa using this⟩
theorem BoxD.keep (h : BoxD w b x y z) (hb : Below w.heap.size w w') : BoxD w' b x y z := h.to (hb.block b h.lt)
end

theorem grown_setD (w : World) (b i : Nat) (u : Value) : w.grownBy (w.setCell ⟨b, i, none⟩ u) (some b) :=
  ⟨rfl, rfl, rfl, by rw [World.size_setCell]; exact Nat.le_refl _, fun k _ hne => Below.heap_setCell _ _ _ _ (fun e => hne (by simp only at e; rw [e]))⟩

/-- The dice stand in block db: the bytes, how many were read, a number. -/
structure Dice (w0 w : World) (db : Nat) (bs : List Int) : Prop where
  ex : ∃ (bv : Value) (i : Nat) (h : Int), BoxD w db bv (.int .i64 i) (.int .u64 h) ∧ i ≤ bs.length ∧ ArgB w0 bv bs
  few : bs.length ≤ 4096
  lo : w0.heap.size ≤ db
  bel : Below w0.heap.size w0 w
theorem Dice.keep {w0 w w' : World} {db : Nat} {bs : List Int} (h : Dice w0 w db bs) (hb : Below w.heap.size w w') : Dice w0 w' db bs := by
  obtain ⟨bv, i, z, h1, h2, h3⟩ := h.ex
  exact ⟨⟨bv, i, z, h1.keep hb, h2, h3⟩, h.few, h.lo, h.bel.trans (hb.mono h.bel.size)⟩
theorem below_grownD {w0 w w' : World} {cb : Nat} (h : Below w0.heap.size w0 w) (hg : w.grownBy w' (some cb)) (hl : w0.heap.size ≤ cb) : Below w0.heap.size w0 w' :=
  ⟨hg.os.trans h.os, hg.tape.trans h.tape, hg.output.trans h.output, Nat.le_trans h.size hg.size, fun k hk => (hg.block k (Nat.lt_of_lt_of_le hk h.size) (fun e => by simp only [Option.some.injEq] at e; omega)).trans (h.block k hk)⟩
theorem andM (x : Int) : ∃ r : Nat, bits BinOp.and IntKind.u64 x 16777215 = (r : Int) ∧ r ≤ 16777215 := by
  refine ⟨(BitVec.ofInt 64 x &&& BitVec.ofInt 64 16777215).toNat, ?_, ?_⟩
  · show IntKind.u64.wrap ((BitVec.ofInt 64 x &&& BitVec.ofInt 64 16777215).toNat : Int) = _
    have h : (BitVec.ofInt 64 x &&& BitVec.ofInt 64 16777215).toNat ≤ 16777215 := by
      rw [BitVec.toNat_and]
      exact Nat.le_trans Nat.and_le_right (by decide)
    generalize (BitVec.ofInt 64 x &&& BitVec.ofInt 64 16777215).toNat = r at h
    simp [IntKind.wrap, IntKind.bits, IntKind.signed]
    omega
  · rw [BitVec.toNat_and]
    exact Nat.le_trans Nat.and_le_right (by decide)

set_option maxRecDepth 100000 in
theorem big_any (v : Value) (bs : List Int) (w : World) (h : ArgB w v bs) :
    Calls Tryd.prog 18 #[v] w fun e w' => e = .returned (.bool (decide (4096 < bs.length))) ∧ w = w' := by
  obtain ⟨p, c, rfl, hl, _⟩ := h
  go_enter Tryd.func18, Tryd.ntmps18
  go_wp2
  go_ret
  exact ⟨ret_bool (by simp; omega), rfl⟩

set_option maxRecDepth 100000 in
set_option maxHeartbeats 4000000 in
theorem below_any (w0 : World) (cb : Nat) (bs : List Int) (k : Nat) (n : Int) (hkn : n = k) (hkp : 0 < k) (hk : k ≤ 1000000) (w : World) (hc : Dice w0 w cb bs) :
    Calls Tryd.prog 40 #[.pointer (some ⟨cb, 0, none⟩), .int .i64 n] w fun e w' => ∃ r : Nat, e = .returned (.int .i64 (r : Int)) ∧ r < k ∧ Dice w0 w' cb bs ∧ w.grownBy w' (some cb) := by
  subst hkn
  have hk0 : ((k : Int) == 0) = false := by simp; omega
  have htm : ∀ r : Nat, Int.tmod (r : Int) (k : Int) = ((r % k : Nat) : Int) := fun r => (Int.ofNat_tmod r k).symm
  have HML : Hid (∀ r : Nat, r % k < k) := Lib.hid (fun r => Nat.mod_lt r hkp)
  obtain ⟨⟨bv, i, h, hb, hi, ha⟩, few, lo, bel⟩ := hc
  obtain ⟨bp, bc, e, ha2⟩ := id ha
  subst e
  have c2 := hb.c2
  have f2 := hb.free 2
  have HB := Lib.hid hb
  have HA := Lib.hid ha
  have HBEL := Lib.hid bel
  clear ha2 ha hb bel
  go_enter Tryd.func40, Tryd.ntmps40
  go_upto_region 1 with fail
  go_cut [14] (fun _ wx => ∃ h2 : Int, wx = w.setCell ⟨cb, 2, none⟩ (.int .u64 h2))
  case first =>
    go_wp2
    go_meet
    exact ⟨_, rfl⟩
  case rest =>
    obtain ⟨h2, rfl⟩ := hcut
    have HB2 := Lib.hid (HB.out.s2 (.int .u64 h2))
    have HG2 := Lib.hid (grown_setD w cb 2 (.int .u64 h2))
    have c2 := HB2.out.c2
    obtain ⟨w2, hw2⟩ : ∃ w2, w2 = w.setCell ⟨cb, 2, none⟩ (.int .u64 h2) := ⟨_, rfl⟩
    rw [← hw2] at c2 HB2 HG2 ⊢
    clear hw2 f2
    obtain ⟨r, hr1, hr⟩ := andM (h2 / 8589934592)
    have hrw : wrap64 (bits BinOp.and IntKind.u64 (h2 / 8589934592) 16777215) = (r : Int) := by rw [hr1]; unfold wrap64; omega
    have c0 := HB2.out.c0
    have c1 := HB2.out.c1
    go_upto_region 3 with fail
    go_cut [31] (fun s wx => s = .bool (decide (i < bs.length)) ∧ Below w2.heap.size w2 wx)
    case first =>
      go_region_held3 (fun w' => w'.cell? ⟨cb, 1, none⟩ = some (.int .i64 i) ∧ w'.cell? ⟨cb, 0, none⟩ = some (.slice bp bs.length bc))
        (first | go_keep | exact ⟨c1, c0⟩)
        (fail)
      all_goals go_wp2
      all_goals go_meet
      all_goals exact ⟨rfl, below_dN (Below.refl _ _) _⟩
    case rest =>
      obtain ⟨rfl, hb4⟩ := hcut
      have HB4 := Lib.hid (HB2.out.keep hb4)
      have HG4 := Lib.hid (grown_trans HG2.out (grown_of_below hb4 _))
      have HL4 := Lib.hid (below_grownD HBEL.out HG4.out lo)
      have c0 := HB4.out.c0
      have c1 := HB4.out.c1
      clear hb4 c2
      by_cases hlt : i < bs.length
      · obtain ⟨xb, xo, rfl, hcx, hx0, hx1⟩ := (HA.out.below HL4.out).get hlt
        generalize bs[i] = x at hcx hx0 hx1
        have hdt : decide (i < bs.length) = true := by simp [hlt]
        have e0 : (0 : Int) ≤ (i : Int) := by omega
        have e1 : (i : Int) < (bs.length : Int) := by omega
        obtain ⟨y, rfl⟩ : ∃ y : Nat, x = (y : Int) := ⟨x.toNat, by omega⟩
        have hwy : IntKind.i64.wrap (y : Int) = (y : Int) := by rw [IntKind.wrap_i64]; omega
        have hws : IntKind.i64.wrap ((r : Int) + (y : Int)) = ((r + y : Nat) : Int) := by rw [IntKind.wrap_i64]; omega
        go_upto_region 4 with fail
        go_cut [5] (fun s wx => s = .int .i64 ((r + y : Nat) : Int) ∧ Below wc.heap.size wc wx)
        case first =>
          go_region_held3 (fun w' => w'.cell? ⟨cb, 1, none⟩ = some (.int .i64 i) ∧ w'.cell? ⟨cb, 0, none⟩ = some (.slice (some ⟨xb, xo, none⟩) bs.length bc) ∧ w'.cell? ⟨xb, xo + i, none⟩ = some (.int .u8 (y : Int)))
            (first | go_keep | exact ⟨c1, c0, hcx⟩)
            (fail)
          all_goals go_wp2
          all_goals go_meet
          all_goals exact ⟨by first | rfl | exact val_int (by omega), below_dN (Below.refl _ _) _⟩
        case rest =>
          obtain ⟨rfl, hb5⟩ := hcut
          have HB5 := Lib.hid (HB4.out.keep hb5)
          have HG5 := Lib.hid (grown_trans HG4.out (grown_of_below hb5 _))
          have c1 := HB5.out.c1
          have f1 := HB5.out.free 1
          have htm2 := htm (r + y)
          clear hb5 hcx c0 htm
          generalize r + y = z at *
          go_wp2
          go_ret
          have HB6 := HB5.out.s1 (.int .i64 ((i + 1 : Nat) : Int))
          have HG6 := grown_trans HG5.out (grown_setD wc cb 1 (.int .i64 ((i + 1 : Nat) : Int)))
          exact ⟨z % k, by first | rfl | (rw [← htm2]; rfl), HML.out _, ⟨⟨_, i + 1, h2, HB6, by omega, HA.out⟩, few, lo, below_grownD HBEL.out HG6 lo⟩, HG6⟩
      · have hdt : decide (i < bs.length) = false := by simp [hlt]
        have htm2 := htm r
        go_wp2
        go_ret
        exact ⟨r % k, by first | rfl | (rw [← htm2]; rfl), HML.out _, ⟨⟨_, i, h2, HB4.out, hi, HA.out⟩, few, lo, HL4.out⟩, HG4.out⟩

end Go.Proofs.YtjdlmjmhlbpooaaDoor

/- Plain: connected sets; a search by a list that grows at its end. -/
namespace Go.Proofs.YtjdlmjmhlbpooaaDoor

/-- A list that is not empty and in which each is reached from the first. -/
def ConnL (E : Nat → Nat → Bool) (L : List Nat) : Prop := L ≠ [] ∧ ∀ x ∈ L, Rch E (· ∈ L) (L.headD 0) x
theorem connL_part {E : Nat → Nat → Bool} {u : Nat} {T : List Nat} : ConnL E (u :: T) ↔ partL E (u :: T) u = u :: T := by
  unfold ConnL partL
  rw [List.filter_eq_self]
  constructor
  · rintro ⟨_, h⟩ x hx
    exact dec_iff.2 (h x hx)
  · intro h
    exact ⟨by simp, fun x hx => dec_iff.1 (h x hx)⟩
theorem connL_len {E : Nat → Nat → Bool} {u : Nat} {T : List Nat} : ConnL E (u :: T) ↔ (partL E (u :: T) u).length = (u :: T).length := by
  rw [connL_part]
  constructor
  · intro h; rw [h]
  · intro h
    refine List.filter_eq_self.2 fun x hx => ?_
    exact List.length_filter_eq_length_iff.1 h x hx
theorem not_connL_nil (E : Nat → Nat → Bool) : ¬ ConnL E [] := fun h => h.1 rfl

theorem nodup_le : ∀ (n : Nat) (M : List Nat), M.Nodup → (∀ x ∈ M, x < n) → M.length ≤ n
  | 0, M, _, h => by
    cases M with
    | nil => exact Nat.le_refl _
    | cons x M => exact absurd (h x (by simp)) (Nat.not_lt_zero _)
  | n + 1, M, hn, h => by
    by_cases hm : n ∈ M
    · have h1 := List.length_erase_of_mem hm
      have h2 := nodup_le n (M.erase n) (hn.erase n) fun x hx => by
        have h3 := (List.Nodup.mem_erase_iff hn).1 hx
        have := h x h3.2
        have := h3.1
        omega
      omega
    · have := nodup_le n M hn fun x hx => by
        have := h x hx
        have : x ≠ n := fun e => hm (e ▸ hx)
        omega
      omega

/-- The search: what is met has a number that is not negative. -/
structure Bf (E : Nat → Nat → Bool) (L : List Nat) (n u : Nat) (F : List Int) (M : List Nat) : Prop where
  len : F.length = n
  nod : M.Nodup
  inn : ∀ x ∈ M, x ∈ L ∧ x < n
  rch : ∀ x ∈ M, Rch E (· ∈ L) u x
  frm : u ∈ M
  sgn : ∀ x, x < n → (0 ≤ F.getD x 0 ↔ x ∈ M)
  bnd : ∀ x, x < n → -1 ≤ F.getD x 0 ∧ F.getD x 0 < M.length
theorem Bf.start {E : Nat → Nat → Bool} {L : List Nat} {n u : Nat} (hu : u ∈ L) (hn : u < n) : Bf E L n u ((List.replicate n (-1 : Int)).set u 0) [u] where
  len := by simp
  nod := by simp
  inn := fun x hx => by
    obtain rfl : x = u := by simpa using hx
    exact ⟨hu, hn⟩
  rch := fun x hx => by
    obtain rfl : x = u := by simpa using hx
    exact .base
  frm := by simp
  sgn := fun x hx => by
    rw [List.getD_eq_getElem?_getD, List.getElem?_set]
    by_cases e : u = x
    · subst e; simp [hn]
    · simp [e, hx, Ne.symm e]
  bnd := fun x hx => by
    rw [List.getD_eq_getElem?_getD, List.getElem?_set]
    by_cases e : u = x
    · subst e; simp [hn]
    · simp [e, hx]
theorem Bf.le {E : Nat → Nat → Bool} {L : List Nat} {n u : Nat} {F : List Int} {M : List Nat} (h : Bf E L n u F M) : M.length ≤ n := nodup_le n M h.nod fun x hx => (h.inn x hx).2
theorem Bf.add {E : Nat → Nat → Bool} {L : List Nat} {n u x y : Nat} {F : List Int} {M : List Nat} (h : Bf E L n u F M) (hx : x ∈ M) (hE : E x y = true) (hy : y ∈ L) (hn : y < n) (hm : y ∉ M) : Bf E L n u (F.set y (F.getD x 0 + 1)) (M ++ [y]) where
  len := by rw [List.length_set]; exact h.len
  nod := by
    rw [List.nodup_append]
    exact ⟨h.nod, by simp, fun a ha b hb => by
      obtain rfl : b = y := by simpa using hb
      exact fun e => hm (e ▸ ha)⟩
  inn := fun z hz => by
    rcases List.mem_append.1 hz with e | e
    · exact h.inn z e
    · obtain rfl : z = y := by simpa using e
      exact ⟨hy, hn⟩
  rch := fun z hz => by
    rcases List.mem_append.1 hz with e | e
    · exact h.rch z e
    · obtain rfl : z = y := by simpa using e
      exact .step (h.rch x hx) hE hy
  frm := List.mem_append_left _ h.frm
  sgn := fun z hz => by
    have hxn := (h.inn x hx).2
    have h0 := (h.sgn x hxn).2 hx
    generalize F.getD x 0 = q at h0 ⊢
    rw [List.getD_eq_getElem?_getD, List.getElem?_set]
    by_cases e : y = z
    · subst e
      simp [h.len, hn]
      omega
    · have := h.sgn z hz
      rw [List.getD_eq_getElem?_getD] at this
      simp [e, this, Ne.symm e]
  bnd := fun z hz => by
    have hxn := (h.inn x hx).2
    have h1 := h.bnd x hxn
    have h2 := h.bnd z hz
    generalize F.getD x 0 = q at h1 ⊢
    rw [List.getD_eq_getElem?_getD] at h2
    rw [List.getD_eq_getElem?_getD, List.getElem?_set, List.length_append]
    by_cases e : y = z
    · subst e
      simp [h.len, hn]
      omega
    · simp only [e, if_false]
      simp
      omega
/-- Of the first so many met all neighbours are met. -/
def BfTo (E : Nat → Nat → Bool) (L M : List Nat) (i : Nat) : Prop := ∀ j, j < i → ∀ y, y ∈ L → E (M.getD j 0) y = true → y ∈ M
theorem BfTo.more {E : Nat → Nat → Bool} {L M : List Nat} {i y : Nat} (h : BfTo E L M i) (hi : i ≤ M.length) : BfTo E L (M ++ [y]) i := fun j hj z hz hE => by
  have e : (M ++ [y]).getD j 0 = M.getD j 0 := by simp [List.getElem?_append_left (show j < M.length by omega)]
  rw [e] at hE
  exact List.mem_append_left _ (h j hj z hz hE)
theorem Bf.done {E : Nat → Nat → Bool} {L : List Nat} {n u : Nat} {F : List Int} {M : List Nat} (h : Bf E L n u F M) (hc : BfTo E L M M.length) : ∀ x, x ∈ M ↔ x ∈ partL E L u := by
  intro x
  rw [mem_partL]
  constructor
  · intro hx
    exact ⟨(h.inn x hx).1, h.rch x hx⟩
  · rintro ⟨_, hx⟩
    refine rch_closed (T := (· ∈ M)) h.frm (fun a b ha hE hb => ?_) x hx
    obtain ⟨j, hj, e⟩ := List.getElem_of_mem ha
    exact hc j hj b hb (by have k : M.getD j 0 = a := by simp [hj, e]
                           rw [k]; exact hE)

end Go.Proofs.YtjdlmjmhlbpooaaDoor
