/- Plain facts: each clique lies in a greatest one. -/
import Derived.Test.YtkppbmfliejnmaaDoorSnQ27
import Derived.Test.YtkppbmfliejnmaaDoorSnQ16
import Derived.Deep.RegionLaw
import Derived.Deep.DeepCutAuto
import Derived.Deep.RegionHeld3
import Derived.Test.YtkppbmfliejnmaaDoorSnQ7
import Derived.Test.YtkppbmfliejnmaaDoorSnQ10
import Derived.Test.YtkppbmfliejnmaaDoorSnQ4
import Derived.Test.YtkppbmfliejnmaaDoorSnQ8
import Derived.Test.YtkppbmfliejnmaaDoorSnQ23
import Derived.Test.YtkppbmfliejnmaaDoorSnQ12
import Derived.Deep.RegionWith
import Derived.Test.YtkppbmfliejnmaaDoorSnQ13
import Derived.Test.YtkppbmfliejnmaaDoorSnQ3
namespace Go.Proofs.YtkppbmfliejnmaaDoor

def pkL (n : Nat) (p : Nat → Bool) : List Nat := (List.range n).filter p
theorem mem_pkL {n : Nat} {p : Nat → Bool} {x : Nat} : x ∈ pkL n p ↔ x < n ∧ p x = true := by simp [pkL]
theorem pkL_inc (n : Nat) (p : Nat → Bool) : (pkL n p).Pairwise (· < ·) := List.Pairwise.filter _ List.pairwise_lt_range
theorem pkL_len (n : Nat) (p : Nat → Bool) : (pkL n p).length ≤ n := by
  have := List.length_filter_le p (List.range n)
  rwa [List.length_range] at this
theorem clq_grow {n : Nat} {E : Nat → Nat → Bool} (hs : ∀ a b, E a b = E b a) (hirr : ∀ v, E v v = false) : ∀ (m : Nat) (p : Nat → Bool), n - (pkL n p).length ≤ m → (∀ a b, a < n → b < n → p a = true → p b = true → a < b → E a b = true) →
    ∃ T ∈ clsP n E, ∀ x, x < n → p x = true → x ∈ T := by
  intro m
  induction m with
  | zero => exact fun p hm hc => base n E hirr p hc (fun y hy hp => by
      have h1 := pkL_len n p
      have h2 : (pkL n p).length = n := by omega
      have h3 := sub_len (y :: pkL n p) (List.range n) (List.nodup_cons.2 ⟨fun h => (by rw [(mem_pkL.1 h).2] at hp; cases hp), (pkL_inc n p).imp fun h => Nat.ne_of_lt h⟩) (fun x hx => by
        rcases List.mem_cons.1 hx with rfl | hx
        · exact List.mem_range.2 hy
        · exact List.mem_range.2 (mem_pkL.1 hx).1)
      rw [List.length_cons, List.length_range] at h3
      omega)
  | succ m ih =>
    intro p hm hc
    by_cases h : ∃ y, y < n ∧ p y = false ∧ ∀ t, t < n → p t = true → E t y = true
    · obtain ⟨y, hy, hp, ht⟩ := h
      have hlen : (pkL n p).length + 1 ≤ (pkL n fun x => p x || x == y).length := by
        have h3 := sub_len (y :: pkL n p) (pkL n fun x => p x || x == y) (List.nodup_cons.2 ⟨fun h => (by rw [(mem_pkL.1 h).2] at hp; cases hp), (pkL_inc n p).imp fun h => Nat.ne_of_lt h⟩) (fun x hx => by
          rcases List.mem_cons.1 hx with rfl | hx
          · exact mem_pkL.2 ⟨hy, by simp⟩
          · exact mem_pkL.2 ⟨(mem_pkL.1 hx).1, by simp [(mem_pkL.1 hx).2]⟩)
        simpa using h3
      obtain ⟨T, hT, hin⟩ := ih (fun x => p x || x == y) (by have := pkL_len n p; omega) (fun a b ha hb pa pb hab => by
        simp only [Bool.or_eq_true, beq_iff_eq] at pa pb
        rcases pa with pa | rfl <;> rcases pb with pb | rfl
        · exact hc a b ha hb pa pb hab
        · exact ht a ha pa
        · rw [hs]; exact ht b hb pb
        · omega)
      exact ⟨T, hT, fun x hx px => hin x hx (by simp [px])⟩
    · exact base n E hirr p hc fun y hy hp => Decidable.byContradiction fun k => h ⟨y, hy, hp, fun t ht pt => by
        cases e : E t y
        · exact absurd ⟨t, ht, pt, e⟩ k
        · rfl⟩
where
  base (n : Nat) (E : Nat → Nat → Bool) (hirr : ∀ v, E v v = false) (p : Nat → Bool) (hc : ∀ a b, a < n → b < n → p a = true → p b = true → a < b → E a b = true) (hm : ∀ y, y < n → p y = false → ∃ t, t < n ∧ p t = true ∧ E t y = false) : ∃ T ∈ clsP n E, ∀ x, x < n → p x = true → x ∈ T := by
    refine ⟨pkL n p, ?_, fun x hx px => mem_pkL.2 ⟨hx, px⟩⟩
    have := clF_all hirr (n + 1) [] (List.range n) [] (pkL n p) (by rw [List.length_range]; omega) List.pairwise_lt_range (pkL_inc n p) ⟨fun y hy => List.mem_range.2 (mem_pkL.1 hy).1, (pkL_inc n p).imp_of_mem fun {a b} ha hb hab => hc a b (mem_pkL.1 ha).1 (mem_pkL.1 hb).1 (mem_pkL.1 ha).2 (mem_pkL.1 hb).2 hab, fun y hy hn => by
      rcases hy with hy | hy
      · have hyn := List.mem_range.1 hy
        have hp : p y = false := by
          cases e : p y
          · rfl
          · exact absurd (mem_pkL.2 ⟨hyn, e⟩) hn
        obtain ⟨t, h1, h2, h3⟩ := hm y hyn hp
        exact ⟨t, mem_pkL.2 ⟨h1, h2⟩, h3⟩
      · cases hy⟩
    simpa [clsP] using this

end Go.Proofs.YtkppbmfliejnmaaDoor

/- What a law's bytes read as. -/
namespace Go.Proofs.YtkppbmfliejnmaaDoor
open Go.RowKit

def ArgB (w : World) (v : Value) (bs : List Int) : Prop := ∃ p c, v = .slice p bs.length c ∧ bs.length ≤ 9223372036854775807 ∧ (∀ x ∈ bs, 0 ≤ x ∧ x ≤ 255) ∧ Cl w p (bs.map (Value.int .u8))
theorem ArgB.below {w w' : World} {v : Value} {bs : List Int} (h : ArgB w v bs) (hb : Below w.heap.size w w') : ArgB w' v bs := by
  obtain ⟨p, c, h1, h2, h3, h4⟩ := h
  exact ⟨p, c, h1, h2, h3, h4.below hb⟩
theorem ArgB.get {w : World} {p : Option Addr} {n c : Nat} {bs : List Int} (h : ArgB w (.slice p n c) bs) {k : Nat} (hk : k < bs.length) :
    ∃ b o, p = some ⟨b, o, none⟩ ∧ w.cell? ⟨b, o + k, none⟩ = some (.int .u8 bs[k]) ∧ 0 ≤ bs[k] ∧ bs[k] ≤ 255 := by
  obtain ⟨p', c', e, _, h3, h4⟩ := h
  cases e
  rcases h4 with h4 | ⟨b, o, rfl, h5⟩
  · rw [List.map_eq_nil_iff] at h4
    subst h4
    simp at hk
  · refine ⟨b, o, rfl, h5 k _ (by simp [hk]), h3 _ (List.getElem_mem hk)⟩

end Go.Proofs.YtkppbmfliejnmaaDoor

/- Walks: the laws' dice (big, roll, below). -/
namespace Go.Proofs.YtkppbmfliejnmaaDoor
open Go.RowKit

structure BoxD (w : World) (b : Nat) (x y z : Value) : Prop where
  blk : w.heap[b]? = some (.cells #[x, y, z] 66 (0, 0))
section
variable {w w' : World} {b : Nat} {x y z : Value}
theorem BoxD.c0 (h : BoxD w b x y z) : w.cell? ⟨b, 0, none⟩ = some x := by unfold World.cell?; rw [h.blk]; rfl
theorem BoxD.c1 (h : BoxD w b x y z) : w.cell? ⟨b, 1, none⟩ = some y := by unfold World.cell?; rw [h.blk]; rfl
theorem BoxD.c2 (h : BoxD w b x y z) : w.cell? ⟨b, 2, none⟩ = some z := by unfold World.cell?; rw [h.blk]; rfl
theorem BoxD.free (h : BoxD w b x y z) (i : Nat) : w.frozen? ⟨b, i, none⟩ = false := by simp [World.frozen?, h.blk]
theorem BoxD.lt (h : BoxD w b x y z) : b < w.heap.size := lt_of_block h.blk
theorem BoxD.new (w : World) (x y z : Value) : BoxD (w.alloc (.cells #[x, y, z] 66)) w.heap.size x y z := ⟨heap_alloc_new w _⟩
theorem BoxD.to (h : BoxD w b x y z) (hk : w'.heap[b]? = w.heap[b]?) : BoxD w' b x y z := ⟨hk.trans h.blk⟩
theorem BoxD.s1 (h : BoxD w b x y z) (u : Value) : BoxD (w.setCell ⟨b, 1, none⟩ u) b x u z := ⟨by have := heap_setCell_same w b 1 _ _ u h.blk; simpa using this⟩
theorem BoxD.s2 (h : BoxD w b x y z) (u : Value) : BoxD (w.setCell ⟨b, 2, none⟩ u) b x y u := ⟨by have := heap_setCell_same w b 2 _ _ u h.blk; simpa using this⟩
theorem BoxD.keep (h : BoxD w b x y z) (hb : Below w.heap.size w w') : BoxD w' b x y z := h.to (hb.block b h.lt)
end

theorem grown_setD (w : World) (b i : Nat) (u : Value) : w.grownBy (w.setCell ⟨b, i, none⟩ u) (some b) :=
  ⟨rfl, rfl, rfl, by rw [World.size_setCell]; exact Nat.le_refl _, fun k _ hne => Below.heap_setCell _ _ _ _ (fun e => hne (by simp only at e; rw [e]))⟩

/-- The dice stand in block db: the bytes, how many were read, a number. -/
structure Dice (w0 w : World) (db : Nat) (bs : List Int) : Prop where
  ex : ∃ (bv : Value) (i : Nat) (h : Int), BoxD w db bv (.int .i64 i) (.int .u64 h) ∧ i ≤ bs.length ∧ ArgB w0 bv bs
  few : bs.length ≤ 4096
  lo : w0.heap.size ≤ db
  bel : Below w0.heap.size w0 w
theorem Dice.keep {w0 w w' : World} {db : Nat} {bs : List Int} (h : Dice w0 w db bs) (hb : Below w.heap.size w w') : Dice w0 w' db bs := by
  obtain ⟨bv, i, z, h1, h2, h3⟩ := h.ex
  exact ⟨⟨bv, i, z, h1.keep hb, h2, h3⟩, h.few, h.lo, h.bel.trans (hb.mono h.bel.size)⟩
theorem below_grownD {w0 w w' : World} {cb : Nat} (h : Below w0.heap.size w0 w) (hg : w.grownBy w' (some cb)) (hl : w0.heap.size ≤ cb) : Below w0.heap.size w0 w' :=
  ⟨hg.os.trans h.os, hg.tape.trans h.tape, hg.output.trans h.output, Nat.le_trans h.size hg.size, fun k hk => (hg.block k (Nat.lt_of_lt_of_le hk h.size) (fun e => by simp only [Option.some.injEq] at e; omega)).trans (h.block k hk)⟩
theorem andM (x : Int) : ∃ r : Nat, bits BinOp.and IntKind.u64 x 16777215 = (r : Int) ∧ r ≤ 16777215 := by
  refine ⟨(BitVec.ofInt 64 x &&& BitVec.ofInt 64 16777215).toNat, ?_, ?_⟩
  · show IntKind.u64.wrap ((BitVec.ofInt 64 x &&& BitVec.ofInt 64 16777215).toNat : Int) = _
    have h : (BitVec.ofInt 64 x &&& BitVec.ofInt 64 16777215).toNat ≤ 16777215 := by
      rw [BitVec.toNat_and]
      exact Nat.le_trans Nat.and_le_right (by decide)
    generalize (BitVec.ofInt 64 x &&& BitVec.ofInt 64 16777215).toNat = r at h
    simp [IntKind.wrap, IntKind.bits, IntKind.signed]
    omega
  · rw [BitVec.toNat_and]
    exact Nat.le_trans Nat.and_le_right (by decide)

set_option maxRecDepth 100000 in
theorem big_any (v : Value) (bs : List Int) (w : World) (h : ArgB w v bs) :
    Calls Tryd.prog 11 #[v] w fun e w' => e = .returned (.bool (decide (4096 < bs.length))) ∧ w = w' := by
  obtain ⟨p, c, rfl, hl, _⟩ := h
  go_enter Tryd.func11, Tryd.ntmps11
  go_wp2
  go_ret
  exact ⟨ret_bool (by simp; omega), rfl⟩

set_option maxRecDepth 100000 in
set_option maxHeartbeats 4000000 in
theorem below_any (w0 : World) (cb : Nat) (bs : List Int) (k : Nat) (n : Int) (hkn : n = k) (hkp : 0 < k) (hk : k ≤ 1000000) (w : World) (hc : Dice w0 w cb bs) :
    Calls Tryd.prog 28 #[.pointer (some ⟨cb, 0, none⟩), .int .i64 n] w fun e w' => ∃ r : Nat, e = .returned (.int .i64 (r : Int)) ∧ r < k ∧ Dice w0 w' cb bs ∧ w.grownBy w' (some cb) := by
  subst hkn
  have hk0 : ((k : Int) == 0) = false := by simp; omega
  have htm : ∀ r : Nat, Int.tmod (r : Int) (k : Int) = ((r % k : Nat) : Int) := fun r => (Int.ofNat_tmod r k).symm
  have HML : Hid (∀ r : Nat, r % k < k) := Lib.hid (fun r => Nat.mod_lt r hkp)
  obtain ⟨⟨bv, i, h, hb, hi, ha⟩, few, lo, bel⟩ := hc
  obtain ⟨bp, bc, e, ha2⟩ := id ha
  subst e
  have c2 := hb.c2
  have f2 := hb.free 2
  have HB := Lib.hid hb
  have HA := Lib.hid ha
  have HBEL := Lib.hid bel
  clear ha2 ha hb bel
  go_enter Tryd.func28, Tryd.ntmps28
  go_upto_region 1 with fail
  go_cut [14] (fun _ wx => ∃ h2 : Int, wx = w.setCell ⟨cb, 2, none⟩ (.int .u64 h2))
  case first =>
    go_wp2
    go_meet
    exact ⟨_, rfl⟩
  case rest =>
    obtain ⟨h2, rfl⟩ := hcut
    have HB2 := Lib.hid (HB.out.s2 (.int .u64 h2))
    have HG2 := Lib.hid (grown_setD w cb 2 (.int .u64 h2))
    have c2 := HB2.out.c2
    obtain ⟨w2, hw2⟩ : ∃ w2, w2 = w.setCell ⟨cb, 2, none⟩ (.int .u64 h2) := ⟨_, rfl⟩
    rw [← hw2] at c2 HB2 HG2 ⊢
    clear hw2 f2
    obtain ⟨r, hr1, hr⟩ := andM (h2 / 8589934592)
    have hrw : wrap64 (bits BinOp.and IntKind.u64 (h2 / 8589934592) 16777215) = (r : Int) := by rw [hr1]; unfold wrap64; omega
    have c0 := HB2.out.c0
    have c1 := HB2.out.c1
    go_upto_region 3 with fail
    go_cut [31] (fun s wx => s = .bool (decide (i < bs.length)) ∧ Below w2.heap.size w2 wx)
    case first =>
      go_region_held3 (fun w' => w'.cell? ⟨cb, 1, none⟩ = some (.int .i64 i) ∧ w'.cell? ⟨cb, 0, none⟩ = some (.slice bp bs.length bc))
        (first | go_keep | exact ⟨c1, c0⟩)
        (fail)
      all_goals go_wp2
      all_goals go_meet
      all_goals exact ⟨rfl, below_dN (Below.refl _ _) _⟩
    case rest =>
      obtain ⟨rfl, hb4⟩ := hcut
      have HB4 := Lib.hid (HB2.out.keep hb4)
      have HG4 := Lib.hid (grown_trans HG2.out (grown_of_below hb4 _))
      have HL4 := Lib.hid (below_grownD HBEL.out HG4.out lo)
      have c0 := HB4.out.c0
      have c1 := HB4.out.c1
      clear hb4 c2
      by_cases hlt : i < bs.length
      · obtain ⟨xb, xo, rfl, hcx, hx0, hx1⟩ := (HA.out.below HL4.out).get hlt
        generalize bs[i] = x at hcx hx0 hx1
        have hdt : decide (i < bs.length) = true := by simp [hlt]
        have e0 : (0 : Int) ≤ (i : Int) := by omega
        have e1 : (i : Int) < (bs.length : Int) := by omega
        obtain ⟨y, rfl⟩ : ∃ y : Nat, x = (y : Int) := ⟨x.toNat, by omega⟩
        have hwy : IntKind.i64.wrap (y : Int) = (y : Int) := by rw [IntKind.wrap_i64]; omega
        have hws : IntKind.i64.wrap ((r : Int) + (y : Int)) = ((r + y : Nat) : Int) := by rw [IntKind.wrap_i64]; omega
        go_upto_region 4 with fail
        go_cut [5] (fun s wx => s = .int .i64 ((r + y : Nat) : Int) ∧ Below wc.heap.size wc wx)
        case first =>
          go_region_held3 (fun w' => w'.cell? ⟨cb, 1, none⟩ = some (.int .i64 i) ∧ w'.cell? ⟨cb, 0, none⟩ = some (.slice (some ⟨xb, xo, none⟩) bs.length bc) ∧ w'.cell? ⟨xb, xo + i, none⟩ = some (.int .u8 (y : Int)))
            (first | go_keep | exact ⟨c1, c0, hcx⟩)
            (fail)
          all_goals go_wp2
          all_goals go_meet
          all_goals exact ⟨by first | rfl | exact val_int (by omega), below_dN (Below.refl _ _) _⟩
        case rest =>
          obtain ⟨rfl, hb5⟩ := hcut
          have HB5 := Lib.hid (HB4.out.keep hb5)
          have HG5 := Lib.hid (grown_trans HG4.out (grown_of_below hb5 _))
          have c1 := HB5.out.c1
          have f1 := HB5.out.free 1
          have htm2 := htm (r + y)
          clear hb5 hcx c0 htm
          generalize r + y = z at *
          go_wp2
          go_ret
          have HB6 := HB5.out.s1 (.int .i64 ((i + 1 : Nat) : Int))
          have HG6 := grown_trans HG5.out (grown_setD wc cb 1 (.int .i64 ((i + 1 : Nat) : Int)))
          exact ⟨z % k, by first | rfl | (rw [← htm2]; rfl), HML.out _, ⟨⟨_, i + 1, h2, HB6, by omega, HA.out⟩, few, lo, below_grownD HBEL.out HG6 lo⟩, HG6⟩
      · have hdt : decide (i < bs.length) = false := by simp [hlt]
        have htm2 := htm r
        go_wp2
        go_ret
        exact ⟨r % k, by first | rfl | (rw [← htm2]; rfl), HML.out _, ⟨⟨_, i, h2, HB4.out, hi, HA.out⟩, few, lo, HL4.out⟩, HG4.out⟩

end Go.Proofs.YtkppbmfliejnmaaDoor

/- Walks: how the reference says that a vertex may be pruned. -/
namespace Go.Proofs.YtkppbmfliejnmaaDoor
open Go.RowKit

theorem owns_shapeA {w : World} {base : Nat} {E : TypeId} {size n : Nat} {v : Value} {xs : List Value} (h : w.ownsRow base E size v n xs) : ∃ p c, v = .slice p n c := by
  rcases h.2 with ⟨rfl, h0⟩ | ⟨b, c, _, rfl, _⟩
  · exact ⟨none, 0, by rw [h0]⟩
  · exact ⟨_, _, rfl⟩

def nearT (g : List (List Int)) (L : List Int) (k : Nat) (b : Int) (t : Nat) : List Int := ((row g k).take t).filter fun x => decide (x ≠ b ∧ x ∈ L)
theorem nearT_succ {g : List (List Int)} {L : List Int} {k : Nat} {b : Int} {t : Nat} (h : t < (row g k).length) :
    nearT g L k b (t + 1) = if (row g k)[t] ≠ b ∧ (row g k)[t] ∈ L then nearT g L k b t ++ [(row g k)[t]] else nearT g L k b t := by
  unfold nearT
  rw [take_snoc _ t h, List.filter_append]
  split
  · rename_i hc; rw [List.filter_cons_of_pos (by simpa using hc)]; rfl
  · rename_i hc; rw [List.filter_cons_of_neg (by simpa using hc)]; simp
theorem nearT_len (g : List (List Int)) (L : List Int) (k : Nat) (b : Int) (t : Nat) : (nearT g L k b t).length ≤ (row g k).length :=
  Nat.le_trans (List.length_filter_le _ _) (by rw [List.length_take]; omega)
theorem nearT_end (g : List (List Int)) (L : List Int) (k : Nat) (b : Int) : nearT g L k b (row g k).length = nearB g L k b := by
  unfold nearT nearB; rw [List.take_length]

end Go.Proofs.YtkppbmfliejnmaaDoor

/- Walk: the reference says whether a vertex may be pruned so. -/
namespace Go.Proofs.YtkppbmfliejnmaaDoor
open Go.RowKit

theorem cells3 (w : World) (a b c : Value) (T : TypeId) : (w.alloc (.cells #[a, b, c] T)).cell? ⟨w.heap.size, 0, none⟩ = some a ∧ (w.alloc (.cells #[a, b, c] T)).cell? ⟨w.heap.size, 1, none⟩ = some b ∧ (w.alloc (.cells #[a, b, c] T)).cell? ⟨w.heap.size, 2, none⟩ = some c := by
  have := heap_alloc_new w (.cells #[a, b, c] T)
  refine ⟨?_, ?_, ?_⟩ <;> (unfold World.cell?; rw [this]; rfl)

theorem nearB_16 {g : List (List Int)} (hok : GOk g) {L : List Int} {v : Nat} (hv : v < g.length) (b : Int) : (nearB g L v b).length ≤ 16 :=
  Nat.le_trans (nearB_len g L v b) (gOk_row_le hok v hv)

theorem goP_one {g : List (List Int)} {L : List Int} {v : Nat} (hL : ∀ x ∈ L, 0 ≤ x) : GoP g L v (-1) 1 ↔ (nearB g L v (-1)).length = 0 := by
  rw [nearB_nil]
  constructor
  · rintro (⟨_, _, h⟩ | ⟨h, _⟩)
    · intro x hx hr
      rw [Int.toNat_natCast] at h
      exact absurd hr (h x hx)
    · have := hL _ h; omega
  · intro h
    refine .inl ⟨rfl, rfl, fun x hx hr => ?_⟩
    rw [Int.toNat_natCast] at hr
    have := h x hx hr
    have := hL x hx
    omega
theorem goP_two {g : List (List Int)} (hok : GOk g) {L : List Int} {v b : Nat} (hv : v < g.length) (hb : (b : Int) ∈ L) (hvb : b ≠ v) :
    GoP g L v b 2 ↔ (b : Int) ∈ row g v ∧ (nearB g L v b).length = 0 := by
  rw [nearB_nil]
  constructor
  · rintro (⟨h, _⟩ | ⟨_, _, h⟩)
    · omega
    · rcases h with ⟨_, h⟩ | ⟨h, _⟩ | ⟨h, _⟩
      · simp only [Int.toNat_natCast] at h
        exact ⟨(h _ hb).2 rfl, fun x hx hr => (h x hx).1 hr⟩
      · omega
      · omega
  · rintro ⟨h1, h2⟩
    refine .inr ⟨hb, by omega, .inl ⟨rfl, fun x hx => ?_⟩⟩
    rw [Int.toNat_natCast]
    exact ⟨fun hr => h2 x hx hr, fun e => by subst e; exact h1⟩
theorem goP_three {g : List (List Int)} (hok : GOk g) {L : List Int} {v b : Nat} (hv : v < g.length) (hbl : b < g.length) (hvL : (v : Int) ∈ L) (hb : (b : Int) ∈ L) (hvb : b ≠ v) :
    GoP g L v b 3 ↔ (b : Int) ∉ row g v ∧ nearB g L v b = nearB g L b v := by
  rw [nearB_same hok hv hbl hvL hb (fun e => hvb e.symm)]
  constructor
  · rintro (⟨h, _⟩ | ⟨_, _, h⟩)
    · omega
    · rcases h with ⟨h, _⟩ | ⟨_, h⟩ | ⟨h, _⟩
      · omega
      · simpa only [Int.toNat_natCast] using h
      · omega
  · intro h
    exact .inr ⟨hb, by omega, .inr (.inl ⟨rfl, by simpa only [Int.toNat_natCast] using h⟩)⟩
theorem goP_four {g : List (List Int)} (hok : GOk g) {L : List Int} {v b : Nat} (hv : v < g.length) (hbl : b < g.length) (hvL : (v : Int) ∈ L) (hb : (b : Int) ∈ L) (hvb : b ≠ v) :
    GoP g L v b 4 ↔ (b : Int) ∈ row g v ∧ nearB g L v b = nearB g L b v := by
  rw [nearB_same hok hv hbl hvL hb (fun e => hvb e.symm)]
  constructor
  · rintro (⟨h, _⟩ | ⟨_, _, h⟩)
    · omega
    · rcases h with ⟨h, _⟩ | ⟨h, _⟩ | ⟨_, h⟩
      · omega
      · omega
      · simpa only [Int.toNat_natCast] using h
  · intro h
    exact .inr ⟨hb, by omega, .inr (.inr ⟨rfl, by simpa only [Int.toNat_natCast] using h⟩)⟩
theorem goP_self {g : List (List Int)} {L : List Int} {v k : Int} (hk : 2 ≤ k) : ¬ GoP g L v v k := by
  rintro (⟨h, _⟩ | ⟨_, h, _⟩)
  · omega
  · exact h rfl

end Go.Proofs.YtkppbmfliejnmaaDoor

/- Walks: two vertices made no neighbours; the program's edges. -/
namespace Go.Proofs.YtkppbmfliejnmaaDoor
open Go.RowKit

end Go.Proofs.YtkppbmfliejnmaaDoor

/- Walk: the program's edges; two vertices made no neighbours. -/
namespace Go.Proofs.YtkppbmfliejnmaaDoor
end Go.Proofs.YtkppbmfliejnmaaDoor

/- Walk: the program's bridges. -/
namespace Go.Proofs.YtkppbmfliejnmaaDoor
open Go.RowKit

theorem bits_all {n : Nat} (hn : n ≤ 16) {W : Nat} (hW : W = 2 ^ n - 1) : bitsOf W = List.range n := by
  have h16 : W < 65536 := by
    have : 2 ^ n ≤ 2 ^ 16 := Nat.pow_le_pow_right (by decide) hn
    have h2 : (2 : Nat) ^ 16 = 65536 := by decide
    have : 0 < 2 ^ n := Nat.pow_pos (by decide)
    omega
  refine rising_ext _ _ (bitsOf_rising _) List.pairwise_lt_range fun i => ?_
  rw [mem_left h16, hW, testBit_firstOf]
  simp
theorem all_lt {n : Nat} (hn : n ≤ 16) {W : Nat} (hW : W = 2 ^ n - 1) : W < 65536 ∧ (∀ i, W.testBit i = true → i < n) ∧ ∀ i, i < n → W.testBit i = true := by
  have : 2 ^ n ≤ 2 ^ 16 := Nat.pow_le_pow_right (by decide) hn
  have h2 : (2 : Nat) ^ 16 = 65536 := by decide
  have : 0 < 2 ^ n := Nat.pow_pos (by decide)
  refine ⟨by omega, fun i hi => ?_, fun i hi => ?_⟩
  · rw [hW, testBit_firstOf] at hi; simpa using hi
  · rw [hW, testBit_firstOf]; simpa using hi
theorem PrsO.otherT {w w' : World} {base base2 : Nat} {ev v : Value} {l : List (Nat × Nat)} {n : Nat} {xs : List Value} (h : PrsO w base ev l) (ho : w.ownsRow base2 70 1 v n xs) (hg : w.grownBy w' v.ownBlock) : PrsO w' base ev l := by
  obtain ⟨vals, h1, h2, h3⟩ := h
  exact ⟨vals, h1, ownsRow_other h2 ho hg (by decide), fun j hj => (h3 j hj).other ho hg (by decide)⟩
theorem PrsO.keptO {w w' : World} {base base2 : Nat} {ev v : Value} {l : List (Nat × Nat)} {n : Nat} {xs : List Value} (h : PrsO w base ev l) (ho : w.ownsRow base2 33 1 v n xs) (hg : w.grownBy w' v.ownBlock) (hne : ∀ b, ev.ownBlock = some b → v.ownBlock ≠ some b) : PrsO w' base ev l := by
  obtain ⟨vals, h1, h2, h3⟩ := h
  refine ⟨vals, h1, h2.kept hg ?_, fun j hj => (h3 j hj).other ho hg (by decide)⟩
  cases hb : ev.ownBlock with
  | none => exact .inl rfl
  | some b => exact .inr fun e => hne b hb e.symm

/-- What the loop over the edges carries. -/
structure BrI (w wr : World) (x ev ov : Value) (B Bx Be : Nat) (n : Nat) (E : Nat → Nat → Bool) (t : Nat) : Prop where
  net : wr.ownsRow Bx 70 1 x n ((indN n E).map u32v)
  edg : PrsO wr Be ev (edN n E n)
  out : PrsO wr B ov (brdL n E ((edN n E n).take t))
  far : ∀ b, ev.ownBlock = some b → ov.ownBlock ≠ some b
  bel : Below w.heap.size w wr
  tab : Tab wr
  tpos : 0 < w.heap.size
  b1 : w.heap.size ≤ B
  b2 : w.heap.size ≤ Bx
  b3 : B ≤ wr.heap.size

theorem BrI.next {w wr wx : World} {x ev ov : Value} {B Bx Be n : Nat} {E : Nat → Nat → Bool} {t : Nat} (h : BrI w wr x ev ov B Bx Be n E t) (hb : Below wr.heap.size wr wx) : BrI w wx x ev ov B Bx Be n E t :=
  ⟨ownsRow_below h.net hb, h.edg.below hb, h.out.below hb, h.far, h.bel.trans (hb.mono h.bel.size), h.tab.keep hb, h.tpos, h.b1, h.b2, Nat.le_trans h.b3 hb.size⟩
/-- While an edge is cut. -/
structure BrC (w wr : World) (x ev ov : Value) (B Bx Be : Nat) (n : Nat) (E : Nat → Nat → Bool) (l : List (Nat × Nat)) (F : Nat → Nat → Bool) : Prop where
  net : wr.ownsRow Bx 70 1 x n ((indN n F).map u32v)
  edg : PrsO wr Be ev (edN n E n)
  out : PrsO wr B ov l
  far : ∀ b, ev.ownBlock = some b → ov.ownBlock ≠ some b
  bel : Below w.heap.size w wr
  tab : Tab wr
  tpos : 0 < w.heap.size
  b1 : w.heap.size ≤ B
  b2 : w.heap.size ≤ Bx
  b3 : B ≤ wr.heap.size
theorem BrC.next {w wr wx : World} {x ev ov : Value} {B Bx Be n : Nat} {E F : Nat → Nat → Bool} {l : List (Nat × Nat)} (h : BrC w wr x ev ov B Bx Be n E l F) (hb : Below wr.heap.size wr wx) : BrC w wx x ev ov B Bx Be n E l F :=
  ⟨ownsRow_below h.net hb, h.edg.below hb, h.out.below hb, h.far, h.bel.trans (hb.mono h.bel.size), h.tab.keep hb, h.tpos, h.b1, h.b2, Nat.le_trans h.b3 hb.size⟩
theorem BrC.turn {w wr wx : World} {x ev ov : Value} {B Bx Be n : Nat} {E F F' : Nat → Nat → Bool} {l : List (Nat × Nat)} (h : BrC w wr x ev ov B Bx Be n E l F) (ho : wx.ownsRow Bx 70 1 x n ((indN n F').map u32v)) (hg : wr.grownBy wx x.ownBlock) : BrC w wx x ev ov B Bx Be n E l F' :=
  ⟨ho, h.edg.otherT h.net hg, h.out.otherT h.net hg, h.far, below_grown h.bel h.net hg h.b2 h.bel.size, h.tab.grownP hg (fun e => by
    have e' : x.ownBlock = some 0 := e.symm
    have := (h.net.lt _ e').1
    have := h.b2
    have := h.tpos
    omega), h.tpos, h.b1, h.b2, Nat.le_trans h.b3 hg.size⟩
theorem BrC.put {w wr wx : World} {x ev ov rv : Value} {B Bx Be n b7 c7 : Nat} {E F : Nat → Nat → Bool} {l : List (Nat × Nat)} {e : Nat × Nat} {vals : List Value} (h : BrC w wr x ev ov B Bx Be n E l F) (hv : vals.length = l.length) (ho : wr.ownsRow B 33 1 ov l.length vals) (hr : ∀ j, j < l.length → Nums wr 2 .i64 (vals.getD j undef) (row (prsL l) j))
    (hn : Nums wr 2 .i64 rv [(e.1 : Int), (e.2 : Int)]) (ho' : wx.ownsRow B 33 1 (.slice (some ⟨b7, 0, none⟩) (l.length + 1) c7) (l.length + 1) (vals ++ [rv])) (hg : wr.grownBy wx ov.ownBlock) (hb7 : ov.ownBlock = some b7 ∨ wr.heap.size < b7) :
    BrC w wx x ev (.slice (some ⟨b7, 0, none⟩) (l.length + 1) c7) B Bx Be n E (l ++ [e]) F := by
  refine ⟨ownsRow_other h.net ho hg (by decide), h.edg.keptO ho hg h.far, PrsO.snoc hv ho hr ho' hg hn, fun b hb he => ?_, below_grown h.bel ho hg h.b1 h.bel.size, h.tab.grownP hg (fun e => by
    have e' : ov.ownBlock = some 0 := e.symm
    have := (ho.lt _ e').1
    have := h.b1
    have := h.tpos
    omega), h.tpos, h.b1, h.b2, Nat.le_trans h.b3 hg.size⟩
  have e2 : b7 = b := by simpa [Value.ownBlock] using he
  subst e2
  rcases hb7 with h7 | h7
  · exact h.far _ hb h7
  · obtain ⟨vals2, _, h2, _⟩ := h.edg
    have := (h2.lt _ hb).2
    omega

end Go.Proofs.YtkppbmfliejnmaaDoor

/- Walk: a graph out of its edges (the reference's GraphOf), for the draws of the laws. -/
namespace Go.Proofs.YtkppbmfliejnmaaDoor
open Go.RowKit

def SymI (E : Nat → Nat → Bool) : Prop := (∀ r j, E r j = true → E j r = true) ∧ ∀ r, E r r = false
theorem symI_none : SymI fun _ _ => false := ⟨fun _ _ h => h, fun _ => rfl⟩
theorem symI_link {E : Nat → Nat → Bool} (h : SymI E) {u v : Nat} (huv : u ≠ v) : SymI fun r j => E r j || (r == u && j == v) || (r == v && j == u) := by
  refine ⟨fun r j hE => ?_, fun r => ?_⟩
  · simp only [Bool.or_eq_true, Bool.and_eq_true, beq_iff_eq] at hE ⊢
    rcases hE with (hE | ⟨h1, h2⟩) | ⟨h1, h2⟩
    · exact .inl (.inl (h.1 _ _ hE))
    · exact .inr ⟨h2, h1⟩
    · exact .inl (.inr ⟨h2, h1⟩)
  · have h1 : ¬ (r = u ∧ r = v) := fun ⟨a, b⟩ => huv (a ▸ b)
    have h2 : ¬ (r = v ∧ r = u) := fun ⟨a, b⟩ => huv (b ▸ a)
    simp only [h.2 r, Bool.false_or, Bool.or_eq_false_iff, Bool.and_eq_false_iff, beq_eq_false_iff_ne]
    refine ⟨?_, ?_⟩
    · by_cases e : r = u
      · exact .inr fun e2 => h1 ⟨e, e2⟩
      · exact .inl e
    · by_cases e : r = v
      · exact .inr fun e2 => h2 ⟨e, e2⟩
      · exact .inl e

structure GoI (w wr : World) (B b6 n : Nat) (gp : Option Addr) (gc : Nat) (Be : Nat) (ev : Value) (l : List (Nat × Nat)) (E : Nat → Nat → Bool) : Prop where
  sg : SG wr B (.agg #[.slice gp n gc]) (matG n E)
  res : Box wr w.heap.size 29 (.slice none 0 0)
  box : Box wr b6 29 (.slice gp n gc)
  prs : PrsO wr Be ev l
  bel : Below w.heap.size w wr
  own : ∀ b, (Value.slice gp n gc).ownBlock = some b → w.heap.size < b ∧ b < b6
  far : ∀ b, ev.ownBlock = some b → b < w.heap.size
  hB : w.heap.size < B
  h6 : w.heap.size < b6
theorem GoI.next {w wr wx : World} {B b6 n : Nat} {gp : Option Addr} {gc Be : Nat} {ev : Value} {l : List (Nat × Nat)} {E : Nat → Nat → Bool} (h : GoI w wr B b6 n gp gc Be ev l E) (hb : Below wr.heap.size wr wx) : GoI w wx B b6 n gp gc Be ev l E :=
  ⟨h.sg.below hb, h.res.keep hb, h.box.keep hb, h.prs.below hb, h.bel.trans (hb.mono h.bel.size), h.own, h.far, h.hB, h.h6⟩
theorem GoI.link {w wr w2 : World} {B b6 n : Nat} {gp : Option Addr} {gc Be : Nat} {ev : Value} {l : List (Nat × Nat)} {E E' : Nat → Nat → Bool} (h : GoI w wr B b6 n gp gc Be ev l E)
    (hs : SG w2 B (.agg #[.slice gp n gc]) (matG n E')) (hg : wr.grownBy w2 (Value.slice gp n gc).ownBlock) : GoI w (w2.setCell ⟨b6, 0, none⟩ (.slice gp n gc)) B b6 n gp gc Be ev l E' := by
  have hbox := h.box.grown hg (fun e => by have := (h.own _ e.symm).2; omega)
  have hres := h.res.grown hg (fun e => by have := (h.own _ e.symm).1; omega)
  have hsg := h.sg
  have hl := matG_length n E
  obtain ⟨u0, vals, e1, hv, ho, hr⟩ := hsg
  cases e1
  rw [hl] at hv ho hr
  have hprs := h.prs.keptO ho hg (fun b hb e => by have h1 := h.far b hb; have h2 := (h.own b e).1; omega)
  have h6 := h.h6
  have hbel : Below w.heap.size w w2 := ⟨hg.os.trans h.bel.os, hg.tape.trans h.bel.tape, hg.output.trans h.bel.output, Nat.le_trans h.bel.size hg.size, fun k hk => (hg.block k (Nat.lt_of_lt_of_le hk h.bel.size) (fun e => by have := (h.own k e.symm).1; omega)).trans (h.bel.block k hk)⟩
  refine ⟨hs.setBox hbox _, hres.setOther (by show w.heap.size ≠ b6; omega) _, hbox.set _, ?_, hbel.setCell (p := ⟨b6, 0, none⟩) (Nat.le_of_lt h6) _, h.own, h.far, h.hB, h6⟩
  obtain ⟨vals2, q1, q2, q3⟩ := hprs
  exact ⟨vals2, q1, ownsRow_setBox q2 hbox (by decide) _, fun j hj => (q3 j hj).setBox hbox (by decide) _⟩

set_option maxRecDepth 100000 in
set_option maxHeartbeats 4000000 in
theorem specGraphOf_any (ev : Value) (z : Int) (n Be : Nat) (l : List (Nat × Nat)) (hz : z = n) (hn1 : 1 ≤ n) (hn16 : n ≤ 16) (hl : ∀ e ∈ l, e.1 < e.2 ∧ e.2 < n) (h120 : l.length ≤ 120) (w : World) (hp : PrsO w Be ev l) :
    Calls Tryd.prog 85 #[.int .i64 z, ev] w fun e w' => ∃ (u : Value) (E : Nat → Nat → Bool), e = .returned (.tuple #[u, .bool true]) ∧ SymI E ∧ SG w' w.heap.size u (matG n E) ∧ Below w.heap.size w w' := by
  subst hz
  obtain ⟨ep, ec, rfl⟩ := hp.shape
  have HP := Lib.hid hp
  have HL := Lib.hid hl
  have hd1 : dec ((1 : Int) ≤ (n : Int) ∧ (n : Int) ≤ 16) = true := dec_true ⟨by omega, by omega⟩
  have HD1 := Lib.hid hd1
  have HR := Lib.hid (Box.new w (.slice none 0 0) 29)
  have HB1 := Lib.hid (below_alloc w (.cells #[.slice none 0 0] 29))
  have HFAR : Hid (∀ b, (Value.slice ep l.length ec).ownBlock = some b → b < w.heap.size) := Lib.hid (fun b hb => by
    obtain ⟨vals, _, h2, _⟩ := hp
    exact (h2.lt b hb).2)
  clear hp hl hd1
  go_enter Tryd.func85, Tryd.ntmps85
  go_upto_region 4 with (first
    | (go_at_call 157; refine (l1Empty_any _ n rfl (by omega) _).mono ?_; rintro e w2 ⟨u, rfl, hs2, hb2⟩; obtain ⟨gp, gc, rfl⟩ := hs2.shape; rw [List.length_replicate] at hs2 ⊢)
    | (go_at_call 153; refine (l1In_any _ _ _ _).mono ?_; rintro e w1 ⟨he, rfl⟩; rw [HD1.out] at he; subst he))
  have hempty : matG n (fun _ _ => false) = List.replicate n [] := matG_none n fun _ _ _ _ => rfl
  rw [← hempty] at hs2
  obtain ⟨w3, hw3⟩ : ∃ w3, w3 = w2.alloc (.cells #[.slice gp n gc] 29) := ⟨_, rfl⟩
  rw [← hw3]
  have hb23 : Below w2.heap.size w2 w3 := by rw [hw3]; exact below_alloc _ _
  have s1 : (w.alloc (.cells #[.slice none 0 0] 29)).heap.size = w.heap.size + 1 := size_alloc _ _
  have s2 := hb2.size
  have START : Hid (GoI w w3 (w.heap.size + 1) w2.heap.size n gp gc Be (.slice ep l.length ec) l (fun _ _ => false)) := Lib.hid
    { sg := by rw [← s1]; exact hs2.below hb23
      res := (HR.out.keep hb2).keep hb23
      box := by rw [hw3]; exact Box.new _ _ _
      prs := ((HP.out.below HB1.out).below hb2).below hb23
      bel := (HB1.out.trans (hb2.mono HB1.out.size)).trans (hb23.mono (Nat.le_trans HB1.out.size s2))
      own := fun b hb => by
        obtain ⟨u0, vals, e1, hv, ho, hr⟩ := hs2
        cases e1
        have := ho.lt b hb
        omega
      far := HFAR.out
      hB := Nat.lt_succ_self _
      h6 := by omega }
  generalize w2.heap.size = b6 at START
  clear hb2 hs2 hw3 hb23 s1 s2 hempty HR HB1 HP
  go_upto_region 4 with fail
  go_wp2
  go_loopw [7] (fun i wr => ∃ (t : Nat) (E : Nat → Nat → Bool), i = .int .i64 t ∧ t ≤ l.length ∧ Hid (SymI E) ∧ Hid (GoI w wr (w.heap.size + 1) b6 n gp gc Be (.slice ep l.length ec) l E)) (fun i _ => l.length - (intOf i).toNat)
  case atStart => exact ⟨0, _, rfl, Nat.zero_le _, Lib.hid symI_none, START⟩
  case round =>
    clear START
    obtain ⟨t, E, rfl, ht, HSE, HG⟩ := hrel
    by_cases hlt : t < l.length
    · obtain ⟨eb, eo, rp, rc, he, hce, hne⟩ := HG.out.prs.get hlt
      subst he
      have hmem := HL.out _ (List.getElem_mem hlt)
      obtain ⟨⟨a, b⟩, hab⟩ : ∃ e : Nat × Nat, e = l[t] := ⟨_, rfl⟩
      rw [← hab] at hmem hne
      obtain ⟨hlt1, hlt2⟩ := hmem
      simp only at hlt1 hlt2 hne
      have HNE := Lib.hid hne
      have hset : SetIn (n : Int) [(a : Int), (b : Int)] := ⟨fun x hx => by
        simp only [List.mem_cons, List.not_mem_nil, or_false] at hx
        rcases hx with rfl | rfl <;> omega, by simp; omega⟩
      have HSD := Lib.hid (dec_true hset)
      clear hne hab hset
      go_upto_region 9 with (go_at_call 169; refine (l1Set_any _ [(a : Int), (b : Int)] n (by omega) (by omega) _ HNE.out).mono ?_; rintro e w5 ⟨he, hb5⟩; rw [HSD.out] at he; subst he)
      have HG5 := Lib.hid (HG.out.next hb5)
      have hce5 := hb5.at' hce
      have hne5 := HNE.out.below hb5
      obtain ⟨rb, ro, rfl, hc0⟩ := hne5.get (k := 0) (by simp)
      obtain ⟨_, _, e1, hc1⟩ := hne5.get (k := 1) (by simp)
      cases e1
      simp only [List.getElem_cons_zero, List.getElem_cons_succ, Nat.add_zero] at hc0 hc1
      have huv : a ≠ b := by omega
      have hlk : ∀ wz, wz = w5.drew → Calls Tryd.prog 154 #[.agg #[.slice gp n gc], .int .i64 (a : Int), .int .i64 (b : Int)] wz fun e w' => e = .returned (.agg #[.slice gp n gc]) ∧ SG w' (w.heap.size + 1) (.agg #[.slice gp n gc]) (matG n (fun r j => E r j || (r == a && j == b) || (r == b && j == a))) ∧ wz.grownBy w' (Value.slice gp n gc).ownBlock := by
        rintro wz rfl
        have hml := matG_length n E
        have := l1Link_any gp gc (matG n E) a b a b (w.heap.size + 1) rfl rfl (by rw [hml]; omega) (by rw [hml]; omega) (fun j _ => Nat.le_trans (matG_row_le j) (by omega)) w5.drew (by rw [hml]; exact HG5.out.sg.below (below_dN (Below.refl _ _) 1))
        rw [hml, link_matG (by omega) hlt2 huv] at this
        exact this
      have Hlk := Lib.hid hlk
      have hb6c := HG5.out.box.cell
      have hb6f := HG5.out.box.free
      have HSN := Lib.hid (symI_link HSE.out huv)
      clear hlk hne5 hb5 hce
      go_region_law (first | (go_simp; go_at_call 154; refine (Hlk.out _ rfl).mono ?_; rintro e w6 ⟨rfl, hs6, hg6⟩; have hg6' : w5.grownBy w6 (Value.slice gp n gc).ownBlock := ⟨hg6.os, (hg6.tape).trans rfl, hg6.output, hg6.size, hg6.block⟩; have hbx := HG5.out.box.grown hg6' (fun e => by have := (HG5.out.own _ e.symm).2; omega); have hc6 := hbx.cell; have hf6 := hbx.free))
      all_goals go_wp2
      all_goals go_roundw
      all_goals first
        | exact ⟨t + 1, _, by go_num, by omega, HSN, Lib.hid (HG5.out.link hs6 hg6')⟩
        | (simp [intOf]; omega)
    · obtain rfl : t = l.length := by omega
      have hb6c := HG.out.box.cell
      obtain ⟨nc, nf, _, _⟩ := HG.out.res
      go_wp2
      refine bodyPost_ret (v := .tuple #[.agg #[.slice gp n gc], .bool true]) (by simp [results, Tryd.results85, go_sem, nc]) rfl ⟨_, E, rfl, HSE.out, SG.base (HG.out.sg.setBox HG.out.res _) (Nat.le_succ _), ?_⟩
      exact HG.out.bel.setCell (p := ⟨w.heap.size, 0, none⟩) (Nat.le_refl _) _

end Go.Proofs.YtkppbmfliejnmaaDoor
