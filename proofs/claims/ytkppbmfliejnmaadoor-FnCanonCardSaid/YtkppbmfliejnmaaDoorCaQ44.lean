/- Contracts for the law FnCanon. -/
import Derived.Test.YtkppbmfliejnmaaDoorCaQ29
import Derived.Test.YtkppbmfliejnmaaDoorCaQ30
import Derived.Test.YtkppbmfliejnmaaDoorCaQ31
import Derived.Test.YtkppbmfliejnmaaDoorCaQ42
import Derived.Test.YtkppbmfliejnmaaDoorCaQ43
import Derived.Test.YtkppbmfliejnmaaDoorCaQ19
import Derived.Deep.RegionLaw
import Derived.Deep.DeepCutAuto
import Derived.Deep.RegionHeld3
namespace Go.Proofs.YtkppbmfliejnmaaDoor
open Go.RowKit

theorem canS_ex (g : List (List Int)) : ∃ x l, CanS g x l := by
  by_cases h : GOk g ∧ g.length ≤ 8
  · obtain ⟨r, hr⟩ := search_some g.length (edB g)
    exact ⟨_, _, .inl ⟨h, r.1, (search_same hr).1, rfl, rfl⟩⟩
  · exact ⟨[], [], .inr ⟨h, rfl, rfl⟩⟩
theorem alkS_ex (g h : List (List Int)) : ∃ l ok, AlkS g h l ok := by
  by_cases k : GOk g ∧ GOk h ∧ g.length ≤ 8 ∧ g.length = h.length ∧ ∃ o, fitF g.length (ofG g) (ofG h) h.length [] = some o
  · obtain ⟨k1, k2, k3, k4, o, k5⟩ := k
    exact ⟨_, true, .inl ⟨rfl, k1, k2, k3, k4, o, k5, rfl⟩⟩
  · exact ⟨[], false, .inr ⟨rfl, rfl, k⟩⟩
theorem indL_nat_len (g : List (List Int)) (o : List Nat) : (indL g (natInts o)).length = o.length := by unfold indL; rw [matG_length, natInts_length]
/-- What the canonical forms of two graphs say of them. -/
theorem canon_law {a b x y : List (List Int)} {l m mp : List Int} {is : Bool} (hx : CanS a x l) (hy : CanS b y m) (hk : AlkS a b mp is) :
    (x.length = 0 → is = false) ∧ (y.length = 0 → is = false) ∧ (x.length ≠ 0 → y.length ≠ 0 → GOk x ∧ GOk y ∧ (is = true ↔ x = y)) := by
  have hnx : ∀ {a x : List (List Int)} {l : List Int}, CanS a x l → x.length = 0 → ¬ (GOk a ∧ a.length ≤ 8) := fun {a x l} h h0 hs => by
    rcases h with ⟨h1, o, h2, _, rfl⟩ | ⟨h1, _⟩
    · have h3 := (levB_best h2).1.len
      rw [indL_nat_len, h3] at h0
      have := h1.1.pos
      omega
    · exact h1 hs
  have hyes : ∀ {a x : List (List Int)} {l : List Int}, CanS a x l → x.length ≠ 0 → (GOk a ∧ a.length ≤ 8) ∧ GOk x ∧ x.length = a.length ∧ ∃ o, (levB a.length (edB a) a.length).head? = some o ∧ x = indL a (natInts o) := fun {a x l} h h0 => by
    rcases h with ⟨h1, o, h2, _, rfl⟩ | ⟨_, h2, _⟩
    · have h3 := (levB_best h2).1
      refine ⟨h1, indL_gok h1.1 h3.lt (by rw [h3.len]; exact h1.1.pos) (by rw [h3.len]; exact h1.1.le), by rw [indL_nat_len, h3.len], o, h2, rfl⟩
    · rw [h2] at h0; exact absurd rfl h0
  refine ⟨fun h0 => ?_, fun h0 => ?_, fun h0 h1 => ?_⟩
  · rcases hk with ⟨_, k1, _, k3, _⟩ | ⟨rfl, _⟩
    · exact absurd ⟨k1, k3⟩ (hnx hx h0)
    · rfl
  · rcases hk with ⟨_, _, k2, k3, k4, _⟩ | ⟨rfl, _⟩
    · exact absurd ⟨k2, by omega⟩ (hnx hy h0)
    · rfl
  · obtain ⟨a1, a2, a3, o, a4, a5⟩ := hyes hx h0
    obtain ⟨b1, b2, b3, q, b4, b5⟩ := hyes hy h1
    refine ⟨a2, b2, fun hi => ?_, fun hxy => ?_⟩
    · subst hi
      rcases hk with ⟨_, _, _, _, k4, f, k5, _⟩ | ⟨h, _⟩
      · rw [a5, b5]
        exact (canon_iso a1.1 b1.1 k4 a4 b4).1 ⟨f, k5⟩
      · cases h
    · have hl : a.length = b.length := by rw [← a3, ← b3, hxy]
      rcases hk with ⟨h, _⟩ | ⟨_, _, h⟩
      · exact h
      · exact absurd ⟨a1.1, b1.1, a1.2, hl, (canon_iso a1.1 b1.1 hl a4 b4).2 (by rw [← a5, ← b5, hxy])⟩ h
theorem canon_ren {a x z : List (List Int)} {l : List Int} {ok : Bool} (hx : CanS a x l) (h0 : x.length ≠ 0) (hr : RenS a l z ok) : ok = true ∧ z = x := by
  rcases hx with ⟨h1, o, h2, rfl, rfl⟩ | ⟨_, h2, _⟩
  · rcases hr with ⟨rfl, _, _, rfl⟩ | ⟨_, _, h⟩
    · exact ⟨rfl, rfl⟩
    · exact absurd ⟨h1.1, (levB_best h2).1.ok⟩ h
  · rw [h2] at h0; exact absurd rfl h0

theorem canonOf_any {g x : List (List Int)} {l : List Int} (hx : CanS g x l) (v : Value) (w : World) (hg : Gr w v g) (hT : Tab w) :
    Calls Tryd.prog 44 #[v] w fun e w' => ∃ (p q : Option Addr) (c d : Nat), e = .returned (.tuple #[.agg #[.slice p x.length c], .slice q l.length d]) ∧ Gr w' (.agg #[.slice p x.length c]) x ∧ Nums w' 2 .i64 (.slice q l.length d) l ∧ Below w.heap.size w w' := by
  refine (implCanonical_any v g w hg hT).mono ?_
  rintro e w' ⟨u, lv, gg, l2, mid, rfl, hs, h1, h2, h3, _, _, hd, ho, hb⟩
  obtain ⟨rfl, rfl⟩ := canS_det hs hx
  have hG : Gr w' u gg := by
    obtain ⟨u', vals, e1, e2, e3, e4, _⟩ := hd
    exact DG.gr (base := w.heap.size) ⟨u', vals, e1, e2, e3, e4⟩ (by omega) (fun j _ => Nat.le_trans (h2 j) (by decide))
  obtain ⟨q, d, rfl⟩ := owns_shapeT ho
  obtain ⟨gu, rfl, hr⟩ := id hG
  obtain ⟨p, c, rfl, _⟩ := hr.shape
  exact ⟨p, q, c, d, rfl, hG, Nums.of_owns ho rfl (by omega), hb⟩
theorem alikeI_any {g h : List (List Int)} {mp : List Int} {is : Bool} (hk : AlkS g h mp is) (v z : Value) (w : World) (hg : Gr w v g) (hh : Gr w z h) (hT : Tab w) :
    Calls Tryd.prog 42 #[v, z] w fun e w' => ∃ (q : Option Addr) (d : Nat), e = .returned (.tuple #[.slice q mp.length d, .bool is]) ∧ Nums w' 2 .i64 (.slice q mp.length d) mp ∧ Below w.heap.size w w' := by
  refine (implAlikeIn_any v z g h w hg hh hT).mono ?_
  rintro e w' ⟨u, l, ok, rfl, hs, hn, hb⟩
  obtain ⟨rfl, rfl⟩ := alkS_det hs hk
  obtain ⟨q, d, rfl, _⟩ := id hn.shape
  exact ⟨q, d, rfl, hn, hb⟩
theorem alikeS_any {g h : List (List Int)} {mp : List Int} {is : Bool} (hk : AlkS g h mp is) (v z : Value) (w : World) (hg : Gr w v g) (hh : Gr w z h) :
    Calls Tryd.prog 45 #[v, z] w fun e w' => ∃ (q : Option Addr) (d : Nat), e = .returned (.tuple #[.slice q mp.length d, .bool is]) ∧ Nums w' 2 .i64 (.slice q mp.length d) mp ∧ Below w.heap.size w w' := by
  refine (specAlikeIn_any v z g h w hg hh).mono ?_
  rintro e w' ⟨u, l, ok, rfl, hs, hn, hb⟩
  obtain ⟨rfl, rfl⟩ := alkS_det hs hk
  obtain ⟨q, d, rfl, _⟩ := id hn.shape
  exact ⟨q, d, rfl, hn, hb⟩
theorem renC_any {a x : List (List Int)} {l : List Int} (hx : CanS a x l) (h0 : x.length ≠ 0) (v lv : Value) (w : World) (hg : Gr w v a) (hn : Nums w 2 .i64 lv l) :
    Calls Tryd.prog 46 #[v, lv] w fun e w' => ∃ (p : Option Addr) (c : Nat), e = .returned (.tuple #[.agg #[.slice p x.length c], .bool true]) ∧ Gr w' (.agg #[.slice p x.length c]) x ∧ Below w.heap.size w w' := by
  refine (specRenamed_any v lv a l w hg hn).mono ?_
  rintro e w' ⟨u, gg, ok, rfl, hs, hsg, h1, _, hb⟩
  obtain ⟨rfl, rfl⟩ := canon_ren hx h0 hs
  obtain ⟨p, c, rfl⟩ := hsg.shape
  exact ⟨p, c, rfl, hsg.gr (by omega), hb⟩

end Go.Proofs.YtkppbmfliejnmaaDoor

/- Walks: the laws' dice (big, roll, below). -/
namespace Go.Proofs.YtkppbmfliejnmaaDoor
open Go.RowKit

structure BoxD (w : World) (b : Nat) (x y z : Value) : Prop where
  blk : w.heap[b]? = some (.cells #[x, y, z] 66 (0, 0))
section
variable {w w' : World} {b : Nat} {x y z : Value}
theorem BoxD.c0 (h : BoxD w b x y z) : w.cell? ⟨b, 0, none⟩ = some x := by unfold World.cell?; rw [h.blk]; rfl
theorem BoxD.c1 (h : BoxD w b x y z) : w.cell? ⟨b, 1, none⟩ = some y := by unfold World.cell?; rw [h.blk]; rfl
theorem BoxD.c2 (h : BoxD w b x y z) : w.cell? ⟨b, 2, none⟩ = some z := by unfold World.cell?; rw [h.blk]; rfl
theorem BoxD.free (h : BoxD w b x y z) (i : Nat) : w.frozen? ⟨b, i, none⟩ = false := by simp [World.frozen?, h.blk]
theorem BoxD.lt (h : BoxD w b x y z) : b < w.heap.size := lt_of_block h.blk
theorem BoxD.new (w : World) (x y z : Value) : BoxD (w.alloc (.cells #[x, y, z] 66)) w.heap.size x y z := ⟨heap_alloc_new w _⟩
theorem BoxD.to (h : BoxD w b x y z) (hk : w'.heap[b]? = w.heap[b]?) : BoxD w' b x y z := ⟨hk.trans h.blk⟩
theorem BoxD.s1 (h : BoxD w b x y z) (u : Value) : BoxD (w.setCell ⟨b, 1, none⟩ u) b x u z := ⟨by have := heap_setCell_same w b 1 _ _ u h.blk; simpa using this⟩
theorem BoxD.s2 (h : BoxD w b x y z) (u : Value) : BoxD (w.setCell ⟨b, 2, none⟩ u) b x y u := ⟨by have := heap_setCell_same w b 2 _ _ u h.blk; simpa using this⟩
theorem BoxD.keep (h : BoxD w b x y z) (hb : Below w.heap.size w w') : BoxD w' b x y z := h.to (hb.block b h.lt)
end

theorem grown_setD (w : World) (b i : Nat) (u : Value) : w.grownBy (w.setCell ⟨b, i, none⟩ u) (some b) :=
  ⟨rfl, rfl, rfl, by rw [World.size_setCell]; exact Nat.le_refl _, fun k _ hne => Below.heap_setCell _ _ _ _ (fun e => hne (by simp only at e; rw [e]))⟩

/-- The dice stand in block db: the bytes, how many were read, a number. -/
structure Dice (w0 w : World) (db : Nat) (bs : List Int) : Prop where
  ex : ∃ (bv : Value) (i : Nat) (h : Int), BoxD w db bv (.int .i64 i) (.int .u64 h) ∧ i ≤ bs.length ∧ ArgB w0 bv bs
  few : bs.length ≤ 4096
  lo : w0.heap.size ≤ db
  bel : Below w0.heap.size w0 w
theorem Dice.keep {w0 w w' : World} {db : Nat} {bs : List Int} (h : Dice w0 w db bs) (hb : Below w.heap.size w w') : Dice w0 w' db bs := by
  obtain ⟨bv, i, z, h1, h2, h3⟩ := h.ex
  exact ⟨⟨bv, i, z, h1.keep hb, h2, h3⟩, h.few, h.lo, h.bel.trans (hb.mono h.bel.size)⟩
theorem below_grownD {w0 w w' : World} {cb : Nat} (h : Below w0.heap.size w0 w) (hg : w.grownBy w' (some cb)) (hl : w0.heap.size ≤ cb) : Below w0.heap.size w0 w' :=
  ⟨hg.os.trans h.os, hg.tape.trans h.tape, hg.output.trans h.output, Nat.le_trans h.size hg.size, fun k hk => (hg.block k (Nat.lt_of_lt_of_le hk h.size) (fun e => by simp only [Option.some.injEq] at e; omega)).trans (h.block k hk)⟩
theorem andM (x : Int) : ∃ r : Nat, bits BinOp.and IntKind.u64 x 16777215 = (r : Int) ∧ r ≤ 16777215 := by
  refine ⟨(BitVec.ofInt 64 x &&& BitVec.ofInt 64 16777215).toNat, ?_, ?_⟩
  · show IntKind.u64.wrap ((BitVec.ofInt 64 x &&& BitVec.ofInt 64 16777215).toNat : Int) = _
    have h : (BitVec.ofInt 64 x &&& BitVec.ofInt 64 16777215).toNat ≤ 16777215 := by
      rw [BitVec.toNat_and]
      exact Nat.le_trans Nat.and_le_right (by decide)
    generalize (BitVec.ofInt 64 x &&& BitVec.ofInt 64 16777215).toNat = r at h
    simp [IntKind.wrap, IntKind.bits, IntKind.signed]
    omega
  · rw [BitVec.toNat_and]
    exact Nat.le_trans Nat.and_le_right (by decide)

set_option maxRecDepth 100000 in
theorem big_any (v : Value) (bs : List Int) (w : World) (h : ArgB w v bs) :
    Calls Tryd.prog 11 #[v] w fun e w' => e = .returned (.bool (decide (4096 < bs.length))) ∧ w = w' := by
  obtain ⟨p, c, rfl, hl, _⟩ := h
  go_enter Tryd.func11, Tryd.ntmps11
  go_wp2
  go_ret
  exact ⟨ret_bool (by simp; omega), rfl⟩

set_option maxRecDepth 100000 in
set_option maxHeartbeats 4000000 in
theorem below_any (w0 : World) (cb : Nat) (bs : List Int) (k : Nat) (n : Int) (hkn : n = k) (hkp : 0 < k) (hk : k ≤ 1000000) (w : World) (hc : Dice w0 w cb bs) :
    Calls Tryd.prog 28 #[.pointer (some ⟨cb, 0, none⟩), .int .i64 n] w fun e w' => ∃ r : Nat, e = .returned (.int .i64 (r : Int)) ∧ r < k ∧ Dice w0 w' cb bs ∧ w.grownBy w' (some cb) := by
  subst hkn
  have hk0 : ((k : Int) == 0) = false := by simp; omega
  have htm : ∀ r : Nat, Int.tmod (r : Int) (k : Int) = ((r % k : Nat) : Int) := fun r => (Int.ofNat_tmod r k).symm
  have HML : Hid (∀ r : Nat, r % k < k) := Lib.hid (fun r => Nat.mod_lt r hkp)
  obtain ⟨⟨bv, i, h, hb, hi, ha⟩, few, lo, bel⟩ := hc
  obtain ⟨bp, bc, e, ha2⟩ := id ha
  subst e
  have c2 := hb.c2
  have f2 := hb.free 2
  have HB := Lib.hid hb
  have HA := Lib.hid ha
  have HBEL := Lib.hid bel
  clear ha2 ha hb bel
  go_enter Tryd.func28, Tryd.ntmps28
  go_upto_region 1 with fail
  go_cut [14] (fun _ wx => ∃ h2 : Int, wx = w.setCell ⟨cb, 2, none⟩ (.int .u64 h2))
  case first =>
    go_wp2
    go_meet
    exact ⟨_, rfl⟩
  case rest =>
    obtain ⟨h2, rfl⟩ := hcut
    have HB2 := Lib.hid (HB.out.s2 (.int .u64 h2))
    have HG2 := Lib.hid (grown_setD w cb 2 (.int .u64 h2))
    have c2 := HB2.out.c2
    obtain ⟨w2, hw2⟩ : ∃ w2, w2 = w.setCell ⟨cb, 2, none⟩ (.int .u64 h2) := ⟨_, rfl⟩
    rw [← hw2] at c2 HB2 HG2 ⊢
    clear hw2 f2
    obtain ⟨r, hr1, hr⟩ := andM (h2 / 8589934592)
    have hrw : wrap64 (bits BinOp.and IntKind.u64 (h2 / 8589934592) 16777215) = (r : Int) := by rw [hr1]; unfold wrap64; omega
    have c0 := HB2.out.c0
    have c1 := HB2.out.c1
    go_upto_region 3 with fail
    go_cut [31] (fun s wx => s = .bool (decide (i < bs.length)) ∧ Below w2.heap.size w2 wx)
    case first =>
      go_region_held3 (fun w' => w'.cell? ⟨cb, 1, none⟩ = some (.int .i64 i) ∧ w'.cell? ⟨cb, 0, none⟩ = some (.slice bp bs.length bc))
        (first | go_keep | exact ⟨c1, c0⟩)
        (fail)
      all_goals go_wp2
      all_goals go_meet
      all_goals exact ⟨rfl, below_dN (Below.refl _ _) _⟩
    case rest =>
      obtain ⟨rfl, hb4⟩ := hcut
      have HB4 := Lib.hid (HB2.out.keep hb4)
      have HG4 := Lib.hid (grown_trans HG2.out (grown_of_below hb4 _))
      have HL4 := Lib.hid (below_grownD HBEL.out HG4.out lo)
      have c0 := HB4.out.c0
      have c1 := HB4.out.c1
      clear hb4 c2
      by_cases hlt : i < bs.length
      · obtain ⟨xb, xo, rfl, hcx, hx0, hx1⟩ := (HA.out.below HL4.out).get hlt
        generalize bs[i] = x at hcx hx0 hx1
        have hdt : decide (i < bs.length) = true := by simp [hlt]
        have e0 : (0 : Int) ≤ (i : Int) := by omega
        have e1 : (i : Int) < (bs.length : Int) := by omega
        obtain ⟨y, rfl⟩ : ∃ y : Nat, x = (y : Int) := ⟨x.toNat, by omega⟩
        have hwy : IntKind.i64.wrap (y : Int) = (y : Int) := by rw [IntKind.wrap_i64]; omega
        have hws : IntKind.i64.wrap ((r : Int) + (y : Int)) = ((r + y : Nat) : Int) := by rw [IntKind.wrap_i64]; omega
        go_upto_region 4 with fail
        go_cut [5] (fun s wx => s = .int .i64 ((r + y : Nat) : Int) ∧ Below wc.heap.size wc wx)
        case first =>
          go_region_held3 (fun w' => w'.cell? ⟨cb, 1, none⟩ = some (.int .i64 i) ∧ w'.cell? ⟨cb, 0, none⟩ = some (.slice (some ⟨xb, xo, none⟩) bs.length bc) ∧ w'.cell? ⟨xb, xo + i, none⟩ = some (.int .u8 (y : Int)))
            (first | go_keep | exact ⟨c1, c0, hcx⟩)
            (fail)
          all_goals go_wp2
          all_goals go_meet
          all_goals exact ⟨by first | rfl | exact val_int (by omega), below_dN (Below.refl _ _) _⟩
        case rest =>
          obtain ⟨rfl, hb5⟩ := hcut
          have HB5 := Lib.hid (HB4.out.keep hb5)
          have HG5 := Lib.hid (grown_trans HG4.out (grown_of_below hb5 _))
          have c1 := HB5.out.c1
          have f1 := HB5.out.free 1
          have htm2 := htm (r + y)
          clear hb5 hcx c0 htm
          generalize r + y = z at *
          go_wp2
          go_ret
          have HB6 := HB5.out.s1 (.int .i64 ((i + 1 : Nat) : Int))
          have HG6 := grown_trans HG5.out (grown_setD wc cb 1 (.int .i64 ((i + 1 : Nat) : Int)))
          exact ⟨z % k, by first | rfl | (rw [← htm2]; rfl), HML.out _, ⟨⟨_, i + 1, h2, HB6, by omega, HA.out⟩, few, lo, below_grownD HBEL.out HG6 lo⟩, HG6⟩
      · have hdt : decide (i < bs.length) = false := by simp [hlt]
        have htm2 := htm r
        go_wp2
        go_ret
        exact ⟨r % k, by first | rfl | (rw [← htm2]; rfl), HML.out _, ⟨⟨_, i, h2, HB4.out, hi, HA.out⟩, few, lo, HL4.out⟩, HG4.out⟩

end Go.Proofs.YtkppbmfliejnmaaDoor
