/- Walk: the reference's FullGraph. -/
import Derived.Test.YtfokiijcpkhllaaDoorFuQ16
import Derived.Test.YtfokiijcpkhllaaDoorFuQ17
import Derived.Test.YtfokiijcpkhllaaDoorFuQ34
import Derived.Test.YtfokiijcpkhllaaDoorFuQ3
import Derived.Deep.RegionLaw
import Derived.Deep.DeepCutAuto
import Derived.Deep.RegionHeld3
import Derived.Test.YtfokiijcpkhllaaDoorFuQ15
import Derived.Deep.RegionWith
import Derived.Test.YtfokiijcpkhllaaDoorFuQ18
import Derived.Test.YtfokiijcpkhllaaDoorFuQ19
namespace Go.Proofs.YtfokiijcpkhllaaDoor
open Go.RowKit

theorem full_of_none (n : Nat) : matG (List.replicate n ([] : List Int)).length (compE (ofG (List.replicate n []))) = fullG n := by
  rw [List.length_replicate]
  refine matG_congr fun r j hr _ => ?_
  have h0 : ofG (List.replicate n ([] : List Int)) r j = false := by
    rw [ofG, decide_eq_false_iff_not]
    simp [row, hr]
  unfold compE
  rw [h0]
  by_cases e : r = j
  · subst e; simp
  · simp [e]
theorem gok_none {n : Nat} (h1 : 1 ≤ n) (h16 : n ≤ 16) : GOk (List.replicate n []) := by
  rw [← matG_none n (E := fun _ _ => false) fun _ _ _ _ => rfl]
  exact gok_matG h1 h16 (fun _ _ h => h) fun _ => rfl
set_option maxRecDepth 100000 in
set_option maxHeartbeats 4000000 in
theorem specFull_yes (z : Int) (n : Nat) (hz : z = n) (h1 : 1 ≤ n) (hn : n ≤ 16) (w : World) :
    Calls Tryd.prog 28 #[.int .i64 z] w fun e w' => ∃ u, e = .returned (.tuple #[u, .bool true]) ∧ SG w' w.heap.size u (fullG n) ∧ Below w.heap.size w w' := by
  subst hz
  obtain ⟨w1, hw1⟩ : ∃ w1, w1 = w.alloc (.cells #[.slice none 0 0] 29) := ⟨_, rfl⟩
  have HR : Hid (Box w1 w.heap.size 29 (.slice none 0 0)) := Lib.hid (by rw [hw1]; exact Box.new _ _ _)
  have HB : Hid (Below w.heap.size w w1) := Lib.hid (by rw [hw1]; exact below_alloc _ _)
  have s1 : w1.heap.size = w.heap.size + 1 := by rw [hw1, size_alloc]
  have HOK := Lib.hid (gok_none h1 hn)
  go_enter Tryd.func28, Tryd.ntmps28
  go_upto_region 1 with fail
  rw [← hw1]
  clear hw1
  go_upto_region 2 with (go_at_call 80; refine (l6Of_yes _ n rfl h1 hn _).mono ?_; rintro e w2 ⟨u, rfl, hs2, hb2⟩; obtain ⟨p, c, rfl⟩ := hs2.shape; rw [List.length_replicate] at hs2 ⊢)
  obtain ⟨w3, hw3⟩ : ∃ W', W' = w2.alloc (.cells #[.slice p n c] 29) := ⟨_, rfl⟩
  rw [← hw3]
  have hb3 : Below w2.heap.size w2 w3 := by rw [hw3]; exact below_alloc _ _
  have HX : Hid (Box w3 w2.heap.size 29 (.slice p n c)) := Lib.hid (by rw [hw3]; exact Box.new _ _ _)
  have HB3 : Hid (Below w1.heap.size w1 w3) := Lib.hid (hb2.trans (hb3.mono hb2.size))
  have HG := Lib.hid (((hs2.gr (by rw [List.length_replicate]; omega) (fun j _ => by simp [row, List.getElem?_replicate]; split <;> simp)).below hb3))
  have cx := HX.out.cell
  have s3 := HB3.out.size
  generalize w2.heap.size = b3 at HX cx
  clear hs2 hb2 hb3 hw3
  go_wp2_with (go_at_call 81; refine (l2Other_any _ (List.replicate n []) HOK.out _ HG.out).mono ?_; rintro e w4 ⟨u4, rfl, hs4, hb4⟩; rw [full_of_none] at hs4; obtain ⟨q, d, rfl⟩ := hs4.shape; rw [fullG_length] at hs4 ⊢; have HB4 := Lib.hid (HB3.out.trans (hb4.mono HB3.out.size)); obtain ⟨nc, nf, nl, nB⟩ := HR.out.keep HB4.out)
  refine bodyPost_ret (v := .tuple #[.agg #[.slice q n d], .bool true]) (by simp [results, Tryd.results28, go_sem, nc]) rfl ⟨_, rfl, (hs4.setBox ⟨nc, nf, nl, nB⟩ _).base (by omega), (HB.out.trans (HB4.out.mono HB.out.size)).setCell (by show w.heap.size ≤ w.heap.size; omega) _⟩

end Go.Proofs.YtfokiijcpkhllaaDoor

/- Walks: the laws' dice (big, roll, below). -/
namespace Go.Proofs.YtfokiijcpkhllaaDoor
open Go.RowKit

structure BoxD (w : World) (b : Nat) (x y z : Value) : Prop where
  blk : w.heap[b]? = some (.cells #[x, y, z] 55 (0, 0))
section
variable {w w' : World} {b : Nat} {x y z : Value}
theorem BoxD.c0 (h : BoxD w b x y z) : w.cell? ⟨b, 0, none⟩ = some x := by unfold World.cell?; rw [h.blk]; rfl
theorem BoxD.c1 (h : BoxD w b x y z) : w.cell? ⟨b, 1, none⟩ = some y := by unfold World.cell?; rw [h.blk]; rfl
theorem BoxD.c2 (h : BoxD w b x y z) : w.cell? ⟨b, 2, none⟩ = some z := by unfold World.cell?; rw [h.blk]; rfl
theorem BoxD.free (h : BoxD w b x y z) (i : Nat) : w.frozen? ⟨b, i, none⟩ = false := by simp [World.frozen?, h.blk]
theorem BoxD.lt (h : BoxD w b x y z) : b < w.heap.size := lt_of_block h.blk
theorem BoxD.new (w : World) (x y z : Value) : BoxD (w.alloc (.cells #[x, y, z] 55)) w.heap.size x y z := ⟨heap_alloc_new w _⟩
theorem BoxD.to (h : BoxD w b x y z) (hk : w'.heap[b]? = w.heap[b]?) : BoxD w' b x y z := ⟨hk.trans h.blk⟩
theorem BoxD.s1 (h : BoxD w b x y z) (u : Value) : BoxD (w.setCell ⟨b, 1, none⟩ u) b x u z := ⟨by have := heap_setCell_same w b 1 _ _ u h.blk; simpa using this⟩
theorem BoxD.s2 (h : BoxD w b x y z) (u : Value) : BoxD (w.setCell ⟨b, 2, none⟩ u) b x y u := ⟨by have := heap_setCell_same w b 2 _ _ u h.blk; simpa using this⟩
theorem BoxD.keep (h : BoxD w b x y z) (hb : Below w.heap.size w w') : BoxD w' b x y z := h.to (hb.block b h.lt)
end

theorem grown_setD (w : World) (b i : Nat) (u : Value) : w.grownBy (w.setCell ⟨b, i, none⟩ u) (some b) :=
  ⟨rfl, rfl, rfl, by rw [World.size_setCell]; exact Nat.le_refl _, fun k _ hne => Below.heap_setCell _ _ _ _ (fun e => hne (by simp only at e; rw [e]))⟩

/-- The dice stand in block db: the bytes, how many were read, a number. -/
structure Dice (w0 w : World) (db : Nat) (bs : List Int) : Prop where
  ex : ∃ (bv : Value) (i : Nat) (h : Int), BoxD w db bv (.int .i64 i) (.int .u64 h) ∧ i ≤ bs.length ∧ ArgB w0 bv bs
  few : bs.length ≤ 4096
  lo : w0.heap.size ≤ db
  bel : Below w0.heap.size w0 w
theorem Dice.keep {w0 w w' : World} {db : Nat} {bs : List Int} (h : Dice w0 w db bs) (hb : Below w.heap.size w w') : Dice w0 w' db bs := by
  obtain ⟨bv, i, z, h1, h2, h3⟩ := h.ex
  exact ⟨⟨bv, i, z, h1.keep hb, h2, h3⟩, h.few, h.lo, h.bel.trans (hb.mono h.bel.size)⟩
theorem below_grownD {w0 w w' : World} {cb : Nat} (h : Below w0.heap.size w0 w) (hg : w.grownBy w' (some cb)) (hl : w0.heap.size ≤ cb) : Below w0.heap.size w0 w' :=
  ⟨hg.os.trans h.os, hg.tape.trans h.tape, hg.output.trans h.output, Nat.le_trans h.size hg.size, fun k hk => (hg.block k (Nat.lt_of_lt_of_le hk h.size) (fun e => by simp only [Option.some.injEq] at e; omega)).trans (h.block k hk)⟩
theorem andM (x : Int) : ∃ r : Nat, bits BinOp.and IntKind.u64 x 16777215 = (r : Int) ∧ r ≤ 16777215 := by
  refine ⟨(BitVec.ofInt 64 x &&& BitVec.ofInt 64 16777215).toNat, ?_, ?_⟩
  · show IntKind.u64.wrap ((BitVec.ofInt 64 x &&& BitVec.ofInt 64 16777215).toNat : Int) = _
    have h : (BitVec.ofInt 64 x &&& BitVec.ofInt 64 16777215).toNat ≤ 16777215 := by
      rw [BitVec.toNat_and]
      exact Nat.le_trans Nat.and_le_right (by decide)
    generalize (BitVec.ofInt 64 x &&& BitVec.ofInt 64 16777215).toNat = r at h
    simp [IntKind.wrap, IntKind.bits, IntKind.signed]
    omega
  · rw [BitVec.toNat_and]
    exact Nat.le_trans Nat.and_le_right (by decide)

set_option maxRecDepth 100000 in
theorem big_any (v : Value) (bs : List Int) (w : World) (h : ArgB w v bs) :
    Calls Tryd.prog 7 #[v] w fun e w' => e = .returned (.bool (decide (4096 < bs.length))) ∧ w = w' := by
  obtain ⟨p, c, rfl, hl, _⟩ := h
  go_enter Tryd.func7, Tryd.ntmps7
  go_wp2
  go_ret
  exact ⟨ret_bool (by simp; omega), rfl⟩

set_option maxRecDepth 100000 in
set_option maxHeartbeats 4000000 in
theorem below_any (w0 : World) (cb : Nat) (bs : List Int) (k : Nat) (n : Int) (hkn : n = k) (hkp : 0 < k) (hk : k ≤ 1000000) (w : World) (hc : Dice w0 w cb bs) :
    Calls Tryd.prog 17 #[.pointer (some ⟨cb, 0, none⟩), .int .i64 n] w fun e w' => ∃ r : Nat, e = .returned (.int .i64 (r : Int)) ∧ r < k ∧ Dice w0 w' cb bs ∧ w.grownBy w' (some cb) := by
  subst hkn
  have hk0 : ((k : Int) == 0) = false := by simp; omega
  have htm : ∀ r : Nat, Int.tmod (r : Int) (k : Int) = ((r % k : Nat) : Int) := fun r => (Int.ofNat_tmod r k).symm
  have HML : Hid (∀ r : Nat, r % k < k) := Lib.hid (fun r => Nat.mod_lt r hkp)
  obtain ⟨⟨bv, i, h, hb, hi, ha⟩, few, lo, bel⟩ := hc
  obtain ⟨bp, bc, e, ha2⟩ := id ha
  subst e
  have c2 := hb.c2
  have f2 := hb.free 2
  have HB := Lib.hid hb
  have HA := Lib.hid ha
  have HBEL := Lib.hid bel
  clear ha2 ha hb bel
  go_enter Tryd.func17, Tryd.ntmps17
  go_upto_region 1 with fail
  go_cut [14] (fun _ wx => ∃ h2 : Int, wx = w.setCell ⟨cb, 2, none⟩ (.int .u64 h2))
  case first =>
    go_wp2
    go_meet
    exact ⟨_, rfl⟩
  case rest =>
    obtain ⟨h2, rfl⟩ := hcut
    have HB2 := Lib.hid (HB.out.s2 (.int .u64 h2))
    have HG2 := Lib.hid (grown_setD w cb 2 (.int .u64 h2))
    have c2 := HB2.out.c2
    obtain ⟨w2, hw2⟩ : ∃ w2, w2 = w.setCell ⟨cb, 2, none⟩ (.int .u64 h2) := ⟨_, rfl⟩
    rw [← hw2] at c2 HB2 HG2 ⊢
    clear hw2 f2
    obtain ⟨r, hr1, hr⟩ := andM (h2 / 8589934592)
    have hrw : wrap64 (bits BinOp.and IntKind.u64 (h2 / 8589934592) 16777215) = (r : Int) := by rw [hr1]; unfold wrap64; omega
    have c0 := HB2.out.c0
    have c1 := HB2.out.c1
    go_upto_region 3 with fail
    go_cut [31] (fun s wx => s = .bool (decide (i < bs.length)) ∧ Below w2.heap.size w2 wx)
    case first =>
      go_region_held3 (fun w' => w'.cell? ⟨cb, 1, none⟩ = some (.int .i64 i) ∧ w'.cell? ⟨cb, 0, none⟩ = some (.slice bp bs.length bc))
        (first | go_keep | exact ⟨c1, c0⟩)
        (fail)
      all_goals go_wp2
      all_goals go_meet
      all_goals exact ⟨rfl, below_dN (Below.refl _ _) _⟩
    case rest =>
      obtain ⟨rfl, hb4⟩ := hcut
      have HB4 := Lib.hid (HB2.out.keep hb4)
      have HG4 := Lib.hid (grown_trans HG2.out (grown_of_below hb4 _))
      have HL4 := Lib.hid (below_grownD HBEL.out HG4.out lo)
      have c0 := HB4.out.c0
      have c1 := HB4.out.c1
      clear hb4 c2
      by_cases hlt : i < bs.length
      · obtain ⟨xb, xo, rfl, hcx, hx0, hx1⟩ := (HA.out.below HL4.out).get hlt
        generalize bs[i] = x at hcx hx0 hx1
        have hdt : decide (i < bs.length) = true := by simp [hlt]
        have e0 : (0 : Int) ≤ (i : Int) := by omega
        have e1 : (i : Int) < (bs.length : Int) := by omega
        obtain ⟨y, rfl⟩ : ∃ y : Nat, x = (y : Int) := ⟨x.toNat, by omega⟩
        have hwy : IntKind.i64.wrap (y : Int) = (y : Int) := by rw [IntKind.wrap_i64]; omega
        have hws : IntKind.i64.wrap ((r : Int) + (y : Int)) = ((r + y : Nat) : Int) := by rw [IntKind.wrap_i64]; omega
        go_upto_region 4 with fail
        go_cut [5] (fun s wx => s = .int .i64 ((r + y : Nat) : Int) ∧ Below wc.heap.size wc wx)
        case first =>
          go_region_held3 (fun w' => w'.cell? ⟨cb, 1, none⟩ = some (.int .i64 i) ∧ w'.cell? ⟨cb, 0, none⟩ = some (.slice (some ⟨xb, xo, none⟩) bs.length bc) ∧ w'.cell? ⟨xb, xo + i, none⟩ = some (.int .u8 (y : Int)))
            (first | go_keep | exact ⟨c1, c0, hcx⟩)
            (fail)
          all_goals go_wp2
          all_goals go_meet
          all_goals exact ⟨by first | rfl | exact val_int (by omega), below_dN (Below.refl _ _) _⟩
        case rest =>
          obtain ⟨rfl, hb5⟩ := hcut
          have HB5 := Lib.hid (HB4.out.keep hb5)
          have HG5 := Lib.hid (grown_trans HG4.out (grown_of_below hb5 _))
          have c1 := HB5.out.c1
          have f1 := HB5.out.free 1
          have htm2 := htm (r + y)
          clear hb5 hcx c0 htm
          generalize r + y = z at *
          go_wp2
          go_ret
          have HB6 := HB5.out.s1 (.int .i64 ((i + 1 : Nat) : Int))
          have HG6 := grown_trans HG5.out (grown_setD wc cb 1 (.int .i64 ((i + 1 : Nat) : Int)))
          exact ⟨z % k, by first | rfl | (rw [← htm2]; rfl), HML.out _, ⟨⟨_, i + 1, h2, HB6, by omega, HA.out⟩, few, lo, below_grownD HBEL.out HG6 lo⟩, HG6⟩
      · have hdt : decide (i < bs.length) = false := by simp [hlt]
        have htm2 := htm r
        go_wp2
        go_ret
        exact ⟨r % k, by first | rfl | (rw [← htm2]; rfl), HML.out _, ⟨⟨_, i, h2, HB4.out, hi, HA.out⟩, few, lo, HL4.out⟩, HG4.out⟩

end Go.Proofs.YtfokiijcpkhllaaDoor

/- Walks: the laws' graphs by dice (printed by wip/mkW6.py). -/
namespace Go.Proofs.YtfokiijcpkhllaaDoor
open Go.RowKit

theorem dice_far {w0 w : World} {db : Nat} {bs : List Int} (h : Dice w0 w db bs) {cur : Array Value} {E : TypeId} {fz : Nat × Nat} {b : Nat} (hE : E ≠ 55) (hb : w.heap[b]? = some (.cells cur E fz)) : b ≠ db := by
  obtain ⟨bv, i, z, h1, _⟩ := h.ex
  intro e
  subst e
  rw [h1.blk] at hb
  simp only [Option.some.injEq, Obj.cells.injEq] at hb
  exact hE hb.2.1.symm
theorem Sl.diced {w0 w w' : World} {db : Nat} {bs : List Int} (h : Dice w0 w db bs) (hg : w.grownBy w' (some db)) {E : TypeId} (hE : E ≠ 55) {v : Value} {n : Nat} {vals : List Value} (hs : Sl w E v n vals) : Sl w' E v n vals :=
  hs.keep fun b cur fz hb => hg.block b (Array.getElem?_eq_some_iff.1 hb).1 (fun e => dice_far h hE hb (by simpa using e))
theorem ownsRow_diced {w0 w w' : World} {db : Nat} {bs : List Int} (h : Dice w0 w db bs) (hg : w.grownBy w' (some db)) {E : TypeId} (hE : E ≠ 55) {base size n : Nat} {v : Value} {xs : List Value} (ho : w.ownsRow base E size v n xs) : w'.ownsRow base E size v n xs :=
  ho.kept hg (by
    rcases ho.2 with ⟨rfl, _⟩ | ⟨g, cap, cur, rfl, _, hgg, _⟩
    · exact .inl rfl
    · exact .inr fun e => dice_far h hE hgg (by simpa [Value.ownBlock] using e))
theorem Box.diced {w0 w w' : World} {db : Nat} {bs : List Int} (h : Dice w0 w db bs) (hg : w.grownBy w' (some db)) {T : TypeId} (hT : T ≠ 55) {b : Nat} {v : Value} (hb : Box w b T v) : Box w' b T v :=
  hb.grown hg (fun e => dice_far h hT hb.blk (by simpa using e))
theorem PrsO.diced {w0 w w' : World} {db : Nat} {bs : List Int} (h : Dice w0 w db bs) (hg : w.grownBy w' (some db)) {base : Nat} {ev : Value} {l : List (Nat × Nat)} (hp : PrsO w base ev l) : PrsO w' base ev l := by
  obtain ⟨vals, h1, h2, h3⟩ := hp
  exact ⟨vals, h1, ownsRow_diced h hg (by decide) h2, fun j hj => Sl.diced h hg (by decide) (h3 j hj)⟩
theorem grown_new {w w' : World} {r : Option Nat} (h : w.grownBy w' r) {b i : Nat} (hb : w.heap.size ≤ b) (u : Value) : w.grownBy (w'.setCell ⟨b, i, none⟩ u) r :=
  ⟨h.os, h.tape, h.output, by rw [World.size_setCell]; exact h.size, fun k hk hne => (Below.heap_setCell _ _ _ _ (by show k ≠ b; omega)).trans (h.block k hk hne)⟩

/-- The edges so far, beside the dice. -/
structure W6I (w0 w wr : World) (db : Nat) (bs : List Int) (ev : Value) (l : List (Nat × Nat)) (n m : Nat) : Prop where
  dice : Dice w0 wr db bs
  gr : w.grownBy wr (some db)
  prs : PrsO wr w.heap.size ev l
  res : Box wr w.heap.size 29 (.slice none 0 0)
  ok : ∀ e ∈ l, e.1 < e.2 ∧ e.2 < n
  len : l.length ≤ m
theorem W6I.more {w0 w wr : World} {db : Nat} {bs : List Int} {ev : Value} {l : List (Nat × Nat)} {n m m' : Nat} (h : W6I w0 w wr db bs ev l n m) (hm : m ≤ m') : W6I w0 w wr db bs ev l n m' :=
  ⟨h.dice, h.gr, h.prs, h.res, h.ok, Nat.le_trans h.len hm⟩
theorem W6I.throw {w0 w wr w2 : World} {db : Nat} {bs : List Int} {ev : Value} {l : List (Nat × Nat)} {n m : Nat} (h : W6I w0 w wr db bs ev l n m) (hd : Dice w0 w2 db bs) (hg : wr.grownBy w2 (some db)) : W6I w0 w w2 db bs ev l n m :=
  ⟨hd, grown_trans h.gr hg, h.prs.diced h.dice hg, h.res.diced h.dice hg (by decide), h.ok, h.len⟩
theorem W6I.put {w0 w wr w7 : World} {db : Nat} {bs : List Int} {ev ev' : Value} {l : List (Nat × Nat)} {n m a b : Nat} {vals : List Value} (h : W6I w0 w wr db bs ev l n m) (hdb : db < w.heap.size) (hab : a < b) (hbn : b < n) (hv1 : vals.length = l.length) (hv2 : wr.ownsRow w.heap.size 32 1 ev l.length vals) (hv3 : ∀ j, j < l.length → Nums wr 2 .i64 (vals.getD j undef) (row (prsL l) j))
    (ho : w7.ownsRow w.heap.size 32 1 ev' (l.length + 1) (vals ++ [.slice (some ⟨wr.heap.size, 0, none⟩) 2 2])) (hg : (wr.alloc (.cells #[.int .i64 a, .int .i64 b] 2)).grownBy w7 ev.ownBlock) : W6I w0 w w7 db bs ev' (l ++ [(a, b)]) n (m + 1) := by
  have ha := below_alloc wr (.cells #[.int .i64 a, .int .i64 b] 2)
  have hv2' := ownsRow_below hv2 ha
  have hrow : Nums (wr.alloc (.cells #[.int .i64 a, .int .i64 b] 2)) 2 .i64 (.slice (some ⟨wr.heap.size, 0, none⟩) 2 2) [(a : Int), (b : Int)] :=
    Nums.of_owns (World.ownsRow_lit (size := 1) wr #[.int .i64 a, .int .i64 b] 2 (Nat.le_refl wr.heap.size) (by decide) rfl) rfl (by decide)
  have hne : ∀ k, ev.ownBlock = some k → w.heap.size ≤ k := fun k hk => (hv2.lt k hk).1
  have hg' : w.grownBy w7 (some db) := ⟨hg.os.trans (ha.os.trans h.gr.os), hg.tape.trans (ha.tape.trans h.gr.tape), hg.output.trans (ha.output.trans h.gr.output), Nat.le_trans h.gr.size (Nat.le_trans ha.size hg.size), fun k hk hkd => (hg.block k (Nat.lt_of_lt_of_le (Nat.lt_of_lt_of_le hk h.gr.size) ha.size) (fun e => by have := hne k e.symm; omega)).trans ((ha.block k (Nat.lt_of_lt_of_le hk h.gr.size)).trans (h.gr.block k hk hkd))⟩
  refine ⟨?_, hg', PrsO.snoc (e := (a, b)) hv1 hv2' (fun j hj => (hv3 j hj).below ha) ho hg hrow, ?_, ?_, ?_⟩
  · have hd := h.dice.keep ha
    obtain ⟨bv, i, z, q1, q2, q3⟩ := hd.ex
    refine ⟨⟨bv, i, z, q1.to (hg.block db q1.lt (fun e => ?_)), q2, q3⟩, hd.few, hd.lo, ?_⟩
    · have := hne db e.symm
      omega
    · have hlo := h.dice.lo
      exact ⟨hg.os.trans hd.bel.os, hg.tape.trans hd.bel.tape, hg.output.trans hd.bel.output, Nat.le_trans hd.bel.size hg.size, fun k hk => (hg.block k (Nat.lt_of_lt_of_le hk hd.bel.size) (fun e => by have := hne k e.symm; omega)).trans (hd.bel.block k hk)⟩
  · refine (h.res.keep ha).grown hg (fun e => ?_)
    have h1 := (h.res.keep ha).blk
    rcases hv2'.2 with ⟨e2, _⟩ | ⟨g, cap, cur, e2, _, hgg, _⟩
    · rw [e2] at e; simp [Value.ownBlock] at e
    · rw [e2] at e
      have : w.heap.size = g := by simpa [Value.ownBlock] using e
      subst this
      rw [h1] at hgg
      simp only [Option.some.injEq, Obj.cells.injEq] at hgg
      exact absurd hgg.2.1 (by decide)
  · intro e he
    rcases List.mem_append.1 he with he | he
    · exact h.ok e he
    · obtain rfl : e = (a, b) := by simpa using he
      exact ⟨hab, hbn⟩
  · rw [List.length_append]; have := h.len; simp; omega

set_option maxRecDepth 100000 in
set_option maxHeartbeats 4000000 in
theorem w9Graph_any (w0 : World) (db : Nat) (bs : List Int) (most : Nat) (z : Int) (hz : z = most) (hm1 : 1 ≤ most) (hm : most ≤ 10) (w : World) (hd : Dice w0 w db bs) (hdb : db < w.heap.size) :
    Calls Tryd.prog 9 #[.pointer (some ⟨db, 0, none⟩), .int .i64 z] w fun e w' => ∃ (u : Value) (n : Nat) (E : Nat → Nat → Bool), e = .returned u ∧ 1 ≤ n ∧ n ≤ most ∧ SymI E ∧ SG w' w.heap.size u (matG n E) ∧ Dice w0 w' db bs ∧ w.grownBy w' (some db) := by
  subst hz
  have HD := Lib.hid hd
  have HDB := Lib.hid hdb
  have HR := Lib.hid (Box.new w (.slice none 0 0) 29)
  have HB1 := Lib.hid (below_alloc w (.cells #[.slice none 0 0] 29))
  clear hd hdb
  go_enter Tryd.func9, Tryd.ntmps9
  go_upto_region 2 with (go_at_call 17; refine (below_any w0 db bs most _ rfl (by omega) (by omega) _ (HD.out.keep HB1.out)).mono ?_; rintro e w2 ⟨r, rfl, hr, hd2, hg2⟩; have HD2 := Lib.hid hd2; have HG2 := Lib.hid hg2; obtain ⟨n, hn⟩ : ∃ n : Nat, n = r + 1 := ⟨_, rfl⟩; have hnr : (1 : Int) + (r : Int) = (n : Int) := (by omega); have hn1 : 1 ≤ n := (by omega); have hn10 : n ≤ most := (by omega); clear hd2 hg2 hn hr)
  go_upto_region 3 with (go_at_call 17; refine (below_any w0 db bs 3 _ rfl (by omega) (by omega) _ HD2.out).mono ?_; rintro e w3 ⟨r3, rfl, hr3, hd3, hg3⟩; have HD3 := Lib.hid hd3; have HG3 := Lib.hid hg3; obtain ⟨c, hc⟩ : ∃ c : Nat, c = 1 + r3 := ⟨_, rfl⟩; have hcr : (1 : Int) + (r3 : Int) = (c : Int) := (by omega); have hc4 : c < 4 := (by omega); clear hd3 hg3 hc hr3)
  have HST : Hid (W6I w0 w (w3.alloc (.cells #[] 32)) db bs (.slice (some ⟨w3.heap.size, 0, none⟩) 0 0) [] n (1 * n)) := Lib.hid
    { dice := HD3.out.keep (below_alloc _ _)
      gr := grown_trans (grown_trans (grown_trans (grown_of_below HB1.out _) HG2.out) HG3.out) (grown_of_below (below_alloc _ _) _)
      prs := PrsO.nil w3 w.heap.size (by have h1 := HB1.out.size; have h2 := HG2.out.size; have h3 := HG3.out.size; omega)
      res := ((HR.out.diced (HD.out.keep HB1.out) HG2.out (by decide)).diced HD2.out HG3.out (by decide)).alloc _
      ok := fun e he => by simp at he
      len := Nat.zero_le _ }
  clear HD2 HG2 HD3 HG3 HR HB1 HD hnr hcr
  go_wp2
  go_loopw [7, 8] (fun ev v wr => ∃ (l : List (Nat × Nat)) (k : Nat), v = .int .i64 k ∧ 1 ≤ k ∧ k ≤ n ∧ Hid (W6I w0 w wr db bs ev l n (k * n))) (fun _ v _ => n - (intOf v).toNat)
  case atStart => exact ⟨[], 1, rfl, Nat.le_refl _, hn1, HST⟩
  case round =>
    clear HST
    obtain ⟨l, k, rfl, hk1, hk, HI⟩ := hrel
    obtain ⟨ep, ec, rfl⟩ := HI.out.prs.shape
    by_cases hlt : k < n
    · obtain ⟨wo, rfl⟩ : ∃ wo, wo = wr := ⟨_, rfl⟩
      go_wp2
      go_loopw [7, 9] (fun ev u wx => ∃ (l : List (Nat × Nat)) (j : Nat), u = .int .i64 j ∧ j ≤ k ∧ Hid (W6I w0 w wx db bs ev l n (k * n + j))) (fun _ u _ => k - (intOf u).toNat)
      case atStart => exact ⟨l, 0, rfl, Nat.zero_le _, HI⟩
      case round =>
        clear HI
        obtain ⟨l, j, rfl, hj, HI⟩ := hrel
        obtain ⟨ep, ec, rfl⟩ := HI.out.prs.shape
        have hll : l.length < 1000000000 := by
          have h1 := HI.out.len
          have h2 : k * n ≤ 10 * 10 := Nat.mul_le_mul (by omega) (by omega)
          omega
        by_cases hjl : j < k
        · go_upto_region 10 with fail
          go_cut [33] (fun s wx => ∃ b : Bool, s = .bool b ∧ Hid (W6I w0 w wx db bs (.slice ep l.length ec) l n (k * n + j)))
          case first =>
            go_wp2_with (go_at_call 17; refine (below_any w0 db bs 4 _ rfl (by omega) (by omega) _ HI.out.dice).mono ?_; rintro e w4 ⟨r4, rfl, hr4, hd4, hg4⟩; have HI4 := Lib.hid (HI.out.throw hd4 hg4); clear hd4 hg4)
            go_meet
            exact ⟨_, rfl, HI4⟩
          case rest =>
            obtain ⟨b, rfl, HI4⟩ := hcut
            clear HI
            cases b
            · go_wp2
              go_roundw
              case rel => exact ⟨l, j + 1, by go_num, by omega, Lib.hid (HI4.out.more (by omega))⟩
              case measure => simp [intOf]; omega
            · obtain ⟨vals, hv1, hv2, hv3⟩ := HI4.out.prs
              have HV1 := Lib.hid hv1
              have HV3 := Lib.hid hv3
              have hsz := HI4.out.gr.size
              clear hv1 hv3
              go_wp2_with (at_builtin; refine wpList_app1s ty_rows64 rfl rfl rfl (hv2.alloc (.cells #[.int .i64 j, .int .i64 k] 2)) (by rw [size_alloc]; rfl) rfl hll (by rw [size_alloc]; omega) ?_; intro b7 c8 w7 hown7 hg7 _)
              go_roundw
              case rel => exact ⟨l ++ [(j, k)], j + 1, by go_num, by omega, Lib.hid (HI4.out.put HDB.out hjl hlt HV1.out hv2 HV3.out hown7 hg7)⟩
              case measure => simp [intOf]; omega
        · obtain rfl : j = k := by omega
          go_wp2
          go_roundw
          case rel => exact ⟨l, j + 1, by go_num, by omega, by omega, Lib.hid (HI.out.more (by rw [Nat.succ_mul]; omega))⟩
          case measure => simp [intOf]; omega
    · obtain rfl : k = n := by omega
      have h120 : l.length ≤ 120 := by
        have h1 := HI.out.len
        have h2 : k * k ≤ 10 * 10 := Nat.mul_le_mul (by omega) (by omega)
        omega
      go_upto_region 13 with (go_at_call 37; refine (specGraphOf_any _ _ k w.heap.size l rfl hn1 (by omega) HI.out.ok h120 _ HI.out.prs).mono ?_; rintro e w5 ⟨u, E, rfl, hse, hsg, hb5⟩; obtain ⟨gp, gc, rfl⟩ := hsg.shape; rw [matG_length] at hsg ⊢)
      obtain ⟨w6, hw6⟩ : ∃ w6, w6 = w5.alloc (.cells #[.slice gp k gc] 29) := ⟨_, rfl⟩
      rw [← hw6]
      have hb56 : Below w5.heap.size w5 w6 := by rw [hw6]; exact below_alloc _ _
      have hbx6 : Box w6 w5.heap.size 29 (.slice gp k gc) := by rw [hw6]; exact Box.new _ _ _
      have hb6 := hb5.trans (hb56.mono hb5.size)
      have hr6 := HI.out.res.keep hb6
      have hc1 := hbx6.cell
      have hc2 := hr6.cell
      have hf2 := hr6.free
      have HR6 := Lib.hid hr6
      have HB6 := Lib.hid hb6
      have HS6 := Lib.hid (hsg.below hb56)
      have HSE := Lib.hid hse
      have s1 := HI.out.gr.size
      clear hw6 hb56 hbx6 hb5 hb6 hr6 hsg hse
      go_wp2
      obtain ⟨nc, nf, _, _⟩ := HR6.out.set (.slice gp k gc)
      have hfin : w.grownBy (w6.setCell ⟨w.heap.size, 0, none⟩ (.slice gp k gc)) (some db) := grown_new (grown_trans HI.out.gr (grown_of_below HB6.out _)) (Nat.le_refl _) _
      have hdc := HI.out.dice.keep HB6.out
      obtain ⟨bv, i, z, q1, q2, q3⟩ := hdc.ex
      have hdb2 := HDB.out
      have hlo := hdc.lo
      refine bodyPost_ret (v := .agg #[.slice gp k gc]) (by simp [results, Tryd.results9, go_sem, nc]) rfl ⟨_, k, E, rfl, hn1, hn10, HSE.out, SG.base (HS6.out.setBox HR6.out _) s1, ⟨⟨bv, i, z, q1.to (Below.heap_setCell _ _ _ _ (by show db ≠ w.heap.size; omega)), q2, q3⟩, hdc.few, hlo, hdc.bel.setCell (p := ⟨w.heap.size, 0, none⟩) (by show w0.heap.size ≤ w.heap.size; omega) _⟩, hfin⟩

end Go.Proofs.YtfokiijcpkhllaaDoor

/- Walk: the laws' dice thrown (roll). -/
namespace Go.Proofs.YtfokiijcpkhllaaDoor
open Go.RowKit

set_option maxRecDepth 100000 in
set_option maxHeartbeats 4000000 in
theorem roll_any (v : Value) (bs : List Int) (s : Int) (hl : bs.length ≤ 4096) (w : World) (ha : ArgB w v bs) :
    Calls Tryd.prog 8 #[v, .int .u64 s] w fun e w' => ∃ db : Nat, e = .returned (.pointer (some ⟨db, 0, none⟩)) ∧ Dice w w' db bs ∧ Below w.heap.size w w' := by
  obtain ⟨p, c, e, _⟩ := id ha
  subst e
  have HA := Lib.hid ha
  clear ha
  go_enter Tryd.func8, Tryd.ntmps8
  go_upto_region 1 with fail
  go_cut [5] (fun s5 wx => ∃ h : Int, s5 = .pointer (some ⟨w.heap.size, 0, none⟩) ∧ wx = w.alloc (.cells #[.slice p bs.length c, .int .i64 0, .int .u64 h] 55))
  case first =>
    go_wp2
    go_meet
    exact ⟨_, rfl, rfl⟩
  case rest =>
  obtain ⟨h, rfl, rfl⟩ := hcut
  go_wp2
  go_loopw [6] (fun i wr => ∃ (k : Nat) (z : Int), i = .int .i64 k ∧ k ≤ bs.length ∧ BoxD wr w.heap.size (.slice p bs.length c) (.int .i64 0) (.int .u64 z) ∧ Below w.heap.size w wr) (fun i _ => bs.length - (intOf i).toNat)
  case atStart => exact ⟨0, h, rfl, Nat.zero_le _, BoxD.new _ _ _ _, below_alloc _ _⟩
  case round =>
    obtain ⟨k, z, rfl, hk, hb, hbel⟩ := hrel
    have HB := Lib.hid hb
    have HBEL := Lib.hid hbel
    have c2 := hb.c2
    have f2 := hb.free 2
    clear hb hbel
    by_cases hlt : k < bs.length
    · obtain ⟨xb, xo, rfl, hcx, hx0, hx1⟩ := (HA.out.below HBEL.out).get hlt
      generalize bs[k] = x at hcx hx0 hx1
      go_upto_region 5 with fail
      go_region_with (fail)
      all_goals go_wp2
      all_goals go_roundw
      all_goals first
        | exact ⟨k + 1, _, by go_num, by omega, (HB.out.keep (below_dN (Below.refl _ _) _)).s2 _, (HBEL.out.trans ((below_dN (Below.refl wr.heap.size wr) _).mono HBEL.out.size)).setCell (p := ⟨w.heap.size, 2, none⟩) (Nat.le_refl _) _⟩
        | (simp [intOf]; omega)
    · obtain rfl : k = bs.length := by omega
      go_wp2
      go_ret
      exact ⟨_, rfl, ⟨⟨_, 0, z, HB.out, Nat.zero_le _, HA.out⟩, hl, Nat.le_refl _, HBEL.out⟩, HBEL.out⟩

end Go.Proofs.YtfokiijcpkhllaaDoor

/- Plain: the least width of taking away all vertices; a model of a full graph bounds it from below. -/
namespace Go.Proofs.YtfokiijcpkhllaaDoor

/-- Who is gone, by bits. -/
def inS (s : Nat) : Nat → Prop := fun x => s.testBit x = true
noncomputable def behS (n : Nat) (E : Nat → Nat → Bool) (s v : Nat) : List Nat := (List.range n).filter fun u => !s.testBit u && decide (u ≠ v) && dec (∃ x, Rch E (inS s) v x ∧ E x u = true)
theorem mem_behS {n : Nat} {E : Nat → Nat → Bool} {s v u : Nat} : u ∈ behS n E s v ↔ u < n ∧ s.testBit u = false ∧ u ≠ v ∧ ∃ x, Rch E (inS s) v x ∧ E x u = true := by
  unfold behS
  rw [List.mem_filter, List.mem_range, Bool.and_eq_true, Bool.and_eq_true, Bool.not_eq_true', decide_eq_true_eq, dec_iff, and_assoc]
theorem behS_rising (n : Nat) (E : Nat → Nat → Bool) (s v : Nat) : (behS n E s v).Pairwise (· < ·) := List.Pairwise.filter _ List.pairwise_lt_range
theorem behS_le (n : Nat) (E : Nat → Nat → Bool) (s v : Nat) : (behS n E s v).length ≤ n := by
  have := List.length_filter_le (fun u => !s.testBit u && decide (u ≠ v) && dec (∃ x, Rch E (inS s) v x ∧ E x u = true)) (List.range n)
  rwa [List.length_range] at this

/-- Whom a search that goes over those who are gone has seen to. -/
def HndB (s v : Nat) (M : List Nat) (O : List Int) (u : Nat) : Prop := (s.testBit u = true → u ∈ M) ∧ (s.testBit u = false → u ≠ v → (u : Int) ∈ O)
structure BhI (n : Nat) (E : Nat → Nat → Bool) (s v : Nat) (M : List Nat) (O : List Int) : Prop where
  nod : M.Nodup
  one : v ∈ M
  rch : ∀ x ∈ M, Rch E (inS s) v x
  lt : ∀ x ∈ M, x < n
  ris : O.Pairwise (· < ·)
  snd : ∀ y ∈ O, ∃ u : Nat, y = u ∧ u ∈ behS n E s v
theorem BhI.start {n : Nat} {E : Nat → Nat → Bool} {s v : Nat} (hv : v < n) : BhI n E s v [v] [] :=
  ⟨by simp, by simp, fun x hx => by
    obtain rfl : x = v := by simpa using hx
    exact .base, fun x hx => by
    obtain rfl : x = v := by simpa using hx
    exact hv, List.Pairwise.nil, fun y hy => by cases hy⟩
theorem BhI.le {n : Nat} {E : Nat → Nat → Bool} {s v : Nat} {M : List Nat} {O : List Int} (h : BhI n E s v M O) : M.length ≤ n := nodup_le n M h.nod h.lt
theorem BhI.le2 {n : Nat} {E : Nat → Nat → Bool} {s v : Nat} {M : List Nat} {O : List Int} (h : BhI n E s v M O) : O.length ≤ n := by
  have hs : SetIn n O := ⟨fun x hx => by
    obtain ⟨u, rfl, hu⟩ := h.snd x hx
    have := (mem_behS.1 hu).1
    omega, h.ris⟩
  have := setIn_length (by omega) hs
  omega
theorem BhI.add {n : Nat} {E : Nat → Nat → Bool} {s v x u : Nat} {M : List Nat} {O : List Int} (h : BhI n E s v M O) (hx : x ∈ M) (hE : E x u = true) (hu : u < n) (hs : s.testBit u = true) (hm : u ∉ M) : BhI n E s v (M ++ [u]) O :=
  ⟨by
    rw [List.nodup_append]
    exact ⟨h.nod, by simp, fun a ha b hb e => by
      obtain rfl : b = u := by simpa using hb
      exact hm (e ▸ ha)⟩, List.mem_append_left _ h.one, fun y hy => by
    rcases List.mem_append.1 hy with hy | hy
    · exact h.rch y hy
    · obtain rfl : y = u := by simpa using hy
      exact .step (h.rch x hx) hE hs, fun y hy => by
    rcases List.mem_append.1 hy with hy | hy
    · exact h.lt y hy
    · obtain rfl : y = u := by simpa using hy
      exact hu, h.ris, h.snd⟩
theorem BhI.put {n : Nat} {E : Nat → Nat → Bool} {s v x u : Nat} {M : List Nat} {O : List Int} (h : BhI n E s v M O) (hx : x ∈ M) (hE : E x u = true) (hu : u < n) (hs : s.testBit u = false) (hv : u ≠ v) : BhI n E s v M (intoL O u) :=
  ⟨h.nod, h.one, h.rch, h.lt, intoL_rising h.ris, fun y hy => by
    rcases mem_intoL.1 hy with hy | rfl
    · exact h.snd y hy
    · exact ⟨u, rfl, mem_behS.2 ⟨hu, hs, hv, x, h.rch x hx, hE⟩⟩⟩
theorem HndB.mono {s v u : Nat} {M M' : List Nat} {O O' : List Int} (h : HndB s v M O u) (hM : ∀ x ∈ M, x ∈ M') (hO : ∀ x ∈ O, x ∈ O') : HndB s v M' O' u := ⟨fun k => hM _ (h.1 k), fun k k' => hO _ (h.2 k k')⟩
/-- When all are seen to, the list is right. -/
theorem BhI.done {n : Nat} {E : Nat → Nat → Bool} {s v : Nat} {M : List Nat} {O : List Int} (h : BhI n E s v M O) (hc : ∀ x ∈ M, ∀ u, u < n → E x u = true → HndB s v M O u) (hEn : ∀ x y, E x y = true → y < n) : O = natInts (behS n E s v) := by
  have hall : ∀ x, Rch E (inS s) v x → x ∈ M := rch_closed (T := (· ∈ M)) h.one fun x y hx hE hy => (hc x hx y (hEn x y hE) hE).1 hy
  refine rising_ext_int _ _ h.ris (natInts_rising (behS_rising _ _ _ _)) fun y => ?_
  rw [mem_natInts]
  constructor
  · intro hy
    obtain ⟨u, rfl, hu⟩ := h.snd y hy
    exact ⟨u, hu, rfl⟩
  · rintro ⟨u, hu, rfl⟩
    obtain ⟨h1, h2, h3, x, h4, h5⟩ := mem_behS.1 hu
    exact (hc x (hall x h4) u h1 h5).2 h2 h3

/-! ### The least width -/
def stepO (b : Int) (x : Nat) : Int := if b < 0 ∨ (x : Int) < b then (x : Int) else b
def minO (l : List Nat) : Int := l.foldl stepO (-1)
theorem minO_snoc (l : List Nat) (x : Nat) : minO (l ++ [x]) = stepO (minO l) x := by simp [minO]
theorem foldO (l : List Nat) : ∀ b : Int, (0 ≤ b → 0 ≤ l.foldl stepO b ∧ l.foldl stepO b ≤ b ∧ (l.foldl stepO b = b ∨ ∃ x ∈ l, l.foldl stepO b = (x : Int)) ∧ ∀ x ∈ l, l.foldl stepO b ≤ (x : Int)) := by
  induction l with
  | nil => intro b hb; exact ⟨hb, Int.le_refl _, .inl rfl, fun x hx => by cases hx⟩
  | cons y l ih =>
    intro b hb
    have hs : 0 ≤ stepO b y := by unfold stepO; split <;> omega
    have hs2 : stepO b y ≤ b ∧ stepO b y ≤ y ∧ (stepO b y = b ∨ stepO b y = y) := by unfold stepO; split <;> omega
    obtain ⟨h1, h2, h3, h4⟩ := ih _ hs
    rw [List.foldl_cons]
    refine ⟨h1, by omega, ?_, fun x hx => ?_⟩
    · rcases h3 with h3 | ⟨x, hx, h3⟩
      · rcases hs2.2.2 with e | e
        · exact .inl (h3.trans e)
        · exact .inr ⟨y, by simp, h3.trans e⟩
      · exact .inr ⟨x, by simp [hx], h3⟩
    · rcases List.mem_cons.1 hx with rfl | hx
      · omega
      · exact h4 x hx
theorem minO_some {l : List Nat} (h : l ≠ []) : ∃ x ∈ l, minO l = (x : Int) := by
  cases l with
  | nil => exact absurd rfl h
  | cons y l =>
    have e : minO (y :: l) = l.foldl stepO (y : Int) := by
      unfold minO
      rw [List.foldl_cons]
      congr 1
    obtain ⟨_, _, h3, _⟩ := foldO l (y : Int) (by omega)
    rw [e]
    rcases h3 with h3 | ⟨x, hx, h3⟩
    · exact ⟨y, by simp, h3⟩
    · exact ⟨x, by simp [hx], h3⟩
theorem minO_le {l : List Nat} : ∀ x ∈ l, minO l ≤ (x : Int) := by
  cases l with
  | nil => intro x hx; cases hx
  | cons y l =>
    have e : minO (y :: l) = l.foldl stepO (y : Int) := by
      unfold minO
      rw [List.foldl_cons]
      congr 1
    obtain ⟨_, h2, _, h4⟩ := foldO l (y : Int) (by omega)
    intro x hx
    rw [e]
    rcases List.mem_cons.1 hx with rfl | hx
    · exact h2
    · exact h4 x hx
theorem minO_nil : minO [] = -1 := rfl
theorem minO_ge (l : List Nat) : -1 ≤ minO l := by
  by_cases h : l = []
  · rw [h, minO_nil]; omega
  · obtain ⟨x, _, hx⟩ := minO_some h
    omega

def freeS (n s : Nat) : List Nat := (List.range n).filter fun v => !s.testBit v
theorem mem_freeS {n s v : Nat} : v ∈ freeS n s ↔ v < n ∧ s.testBit v = false := by
  unfold freeS
  rw [List.mem_filter, List.mem_range, Bool.not_eq_true']
theorem testBit_put (s v x : Nat) : (s ||| 2 ^ v).testBit x = (s.testBit x || decide (v = x)) := by
  rw [Nat.testBit_or]
  by_cases e : v = x
  · subst e; simp
  · rw [Nat.testBit_two_pow_of_ne e]; simp [e]
theorem freeS_put {n s v : Nat} (hv : v ∈ freeS n s) : (freeS n (s ||| 2 ^ v)).length + 1 = (freeS n s).length := by
  have h1 : freeS n (s ||| 2 ^ v) = (freeS n s).filter (· != v) := by
    unfold freeS
    rw [List.filter_filter]
    congr 1
    funext x
    rw [testBit_put]
    by_cases e : v = x
    · subst e; simp
    · simp [e, Ne.symm e]
  have hnd : (freeS n s).Nodup := List.Pairwise.filter _ List.nodup_range
  rw [h1]
  have key : ∀ l : List Nat, l.Nodup → v ∈ l → (l.filter (· != v)).length + 1 = l.length := by
    intro l
    induction l with
    | nil => intro _ h; cases h
    | cons x l ih =>
      intro hn hm
      have hn' := List.nodup_cons.1 hn
      by_cases e : x = v
      · subst e
        have : l.filter (· != x) = l := List.filter_eq_self.2 fun y hy => by
          have : y ≠ x := fun e => hn'.1 (e ▸ hy)
          simpa using this
        rw [List.filter_cons, this]
        simp
      · have hm' : v ∈ l := by
          rcases List.mem_cons.1 hm with h | h
          · exact absurd h.symm e
          · exact h
        have h5 := ih hn'.2 hm'
        rw [List.filter_cons, if_pos (by simpa using e)]
        simp only [List.length_cons]
        omega
  exact key _ hnd hv
noncomputable def twN (n : Nat) (E : Nat → Nat → Bool) : Nat → Nat → Nat
  | 0, _ => 0
  | r + 1, s => (max (minO ((freeS n s).map fun v => max (behS n E s v).length (twN n E r (s ||| 2 ^ v)))) 0).toNat
noncomputable def twS (n : Nat) (E : Nat → Nat → Bool) (s : Nat) : Nat := twN n E (freeS n s).length s
noncomputable def valS (n : Nat) (E : Nat → Nat → Bool) (s v : Nat) : Nat := max (behS n E s v).length (twS n E (s ||| 2 ^ v))
theorem twS_eq (n : Nat) (E : Nat → Nat → Bool) (s : Nat) : (twS n E s : Int) = max (minO ((freeS n s).map (valS n E s))) 0 := by
  by_cases h : freeS n s = []
  · have e : twS n E s = 0 := by unfold twS; rw [h]; rfl
    rw [e, h, List.map_nil, minO_nil]
    rfl
  · obtain ⟨r, hr⟩ : ∃ r, (freeS n s).length = r + 1 := ⟨(freeS n s).length - 1, by have := List.length_pos_iff.2 h; omega⟩
    have e : twS n E s = twN n E (r + 1) s := by unfold twS; rw [hr]
    rw [e, twN]
    have e2 : ((freeS n s).map fun v => max (behS n E s v).length (twN n E r (s ||| 2 ^ v))) = (freeS n s).map (valS n E s) := by
      refine List.map_congr_left fun v hv => ?_
      have := freeS_put hv
      unfold valS twS
      rw [show (freeS n (s ||| 2 ^ v)).length = r by omega]
    rw [e2]
    omega
theorem behS_lt {n : Nat} {E : Nat → Nat → Bool} {s v : Nat} (hv : v < n) : (behS n E s v).length < n := by
  have := sub_len (v :: behS n E s v) (List.range n) (List.nodup_cons.2 ⟨fun h => (mem_behS.1 h).2.2.1 rfl, (behS_rising _ _ _ _).imp fun h => by omega⟩) fun x hx => by
    rw [List.mem_range]
    rcases List.mem_cons.1 hx with rfl | hx
    · exact hv
    · exact (mem_behS.1 hx).1
  rw [List.length_range] at this
  simp at this; omega
theorem twS_le (n : Nat) (E : Nat → Nat → Bool) : ∀ (r s : Nat), (freeS n s).length = r → twS n E s ≤ n
  | r, s, hr => by
    have h := twS_eq n E s
    by_cases hn : freeS n s = []
    · rw [hn, List.map_nil, minO_nil] at h
      omega
    · obtain ⟨x, hx, e⟩ := minO_some (l := (freeS n s).map (valS n E s)) (by simpa using hn)
      obtain ⟨v, hv, rfl⟩ := List.mem_map.1 hx
      have hf := freeS_put hv
      match r, hr with
      | 0, hr => omega
      | r + 1, hr =>
        have h1 := twS_le n E r (s ||| 2 ^ v) (by omega)
        have h2 := behS_le n E s v
        have : valS n E s v ≤ n := by unfold valS; omega
        rw [e] at h
        omega

/-- The neighbours over those who are gone. -/
def viaR (E : Nat → Nat → Bool) (s : Nat) : Nat → Nat → Prop := fun x y => s.testBit x = false ∧ s.testBit y = false ∧ x ≠ y ∧ ∃ z, Rch E (inS s) x z ∧ E z y = true
theorem rch_back {E : Nat → Nat → Bool} {s v : Nat} (hE : ∀ x y, E x y = true → E y x = true) {z : Nat} (h : Rch E (inS s) v z) : ∀ x, E z x = true → Rch E (inS (s ||| 2 ^ v)) x v := by
  induction h with
  | base => intro x hx; exact .step .base (hE _ _ hx) (by unfold inS; rw [testBit_put]; simp)
  | @step z' z hz' hzz hz ih =>
    intro x hx
    have h1 : inS (s ||| 2 ^ v) z := by unfold inS at *; rw [testBit_put, hz]; rfl
    exact rch_trans (.step .base (hE _ _ hx) h1) (ih z hzz)
theorem viaR_gone {E : Nat → Nat → Bool} {s v x y : Nat} (hE : ∀ x y, E x y = true → E y x = true) (h : goneR (viaR E s) v x y) : viaR E (s ||| 2 ^ v) x y := by
  obtain ⟨h1, h2, h3, h⟩ := h
  have mono : ∀ t, inS s t → inS (s ||| 2 ^ v) t := fun t ht => by unfold inS at *; rw [testBit_put, ht]; rfl
  have bit : ∀ t, t ≠ v → s.testBit t = false → (s ||| 2 ^ v).testBit t = false := fun t ht hs => by rw [testBit_put, hs]; simpa using Ne.symm ht
  rcases h with ⟨k1, k2, _, z, k3, k4⟩ | ⟨⟨_, k2, _, z, k3, k4⟩, ⟨_, m2, _, z2, m3, m4⟩⟩
  · exact ⟨bit x h1 k1, bit y h2 k2, h3, z, rch_mono mono _ k3, k4⟩
  · exact ⟨bit x h1 k2, bit y h2 m2, h3, z2, rch_trans (rch_back hE k3 x k4) (rch_mono mono _ m3), m4⟩
theorem viaR_sym {E : Nat → Nat → Bool} {s x y : Nat} (hE : ∀ x y, E x y = true → E y x = true) (h : viaR E s x y) : viaR E s y x := by
  obtain ⟨h1, h2, h3, z, h4, h5⟩ := h
  refine ⟨h2, h1, Ne.symm h3, ?_⟩
  -- from y back to x: the last step into x comes from a gone vertex or from y
  have key : ∀ z, Rch E (inS s) x z → ∀ y, E z y = true → ∃ t, Rch E (inS s) y t ∧ E t x = true := by
    intro z hz
    induction hz with
    | base => intro y hy; exact ⟨y, .base, hE _ _ hy⟩
    | @step z' z _ hzz hz ih =>
      intro y hy
      obtain ⟨t, ht, hx⟩ := ih z hzz
      exact ⟨t, rch_trans (.step .base (hE _ _ hy) hz) ht, hx⟩
  exact key z h4 y h5
theorem viaR_zero {E : Nat → Nat → Bool} (hi : ∀ x, E x x = false) (x y : Nat) (h : E x y = true) : viaR E 0 x y :=
  ⟨Nat.zero_testBit x, Nat.zero_testBit y, fun e => (by rw [e, hi] at h; cases h), x, .base, h⟩
/-- A model of a full graph: each order of taking away is at least so wide. -/
theorem km_tw {n : Nat} {E : Nat → Nat → Bool} (hE : ∀ x y, E x y = true → E y x = true) (hEn : ∀ x y, E x y = true → y < n) {k : Nat} (hk : 2 ≤ k) : ∀ (r s : Nat) (B : Nat → Nat → Prop), (freeS n s).length = r → KM (viaR E s) k B → k ≤ twS n E s + 1
  | r, s, B, hr, h => by
    have hne : freeS n s ≠ [] := by
      obtain ⟨x, hx⟩ := h.ne 0 (by omega)
      obtain ⟨y, hy⟩ := h.near hk (by omega) hx
      obtain ⟨_, h2, _, z, _, h5⟩ := hy
      exact List.ne_nil_of_mem (mem_freeS.2 ⟨hEn _ _ h5, h2⟩)
    obtain ⟨x, hx, e⟩ := minO_some (l := (freeS n s).map (valS n E s)) (by simpa using hne)
    obtain ⟨v, hv, rfl⟩ := List.mem_map.1 hx
    have hf := freeS_put hv
    have heq := twS_eq n E s
    rw [e] at heq
    have hval : twS n E s = valS n E s v := by omega
    rw [hval]
    unfold valS
    by_cases c : k ≤ (behS n E s v).length + 1
    · omega
    · have hg := h.gone (fun x y => viaR_sym hE) (v := v) (l := behS n E s v) (by omega) fun x hx => by
        obtain ⟨_, h2, h3, z, h4, h5⟩ := hx
        exact mem_behS.2 ⟨hEn _ _ h5, h2, Ne.symm h3, z, h4, h5⟩
      have hg2 := hg.mono fun _ _ _ _ x y _ _ r => viaR_gone hE r
      match r, hr with
      | 0, hr => omega
      | r + 1, hr =>
        have := km_tw hE hEn hk r (s ||| 2 ^ v) _ (by omega) hg2
        omega

end Go.Proofs.YtfokiijcpkhllaaDoor
