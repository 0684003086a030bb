/- What a law's bytes read as. -/
import Derived.Test.YtfokiijcpkhllaaDoorDsQ14
import Derived.Deep.RegionLaw
import Derived.Deep.DeepCutAuto
import Derived.Deep.RegionHeld3
import Derived.Test.YtfokiijcpkhllaaDoorDsQ32
import Derived.Test.YtfokiijcpkhllaaDoorDsQ26
import Derived.Test.YtfokiijcpkhllaaDoorDsQ3
import Derived.Deep.RegionWith
namespace Go.Proofs.YtfokiijcpkhllaaDoor
open Go.RowKit

def ArgB (w : World) (v : Value) (bs : List Int) : Prop := ∃ p c, v = .slice p bs.length c ∧ bs.length ≤ 9223372036854775807 ∧ (∀ x ∈ bs, 0 ≤ x ∧ x ≤ 255) ∧ Cl w p (bs.map (Value.int .u8))
theorem ArgB.below {w w' : World} {v : Value} {bs : List Int} (h : ArgB w v bs) (hb : Below w.heap.size w w') : ArgB w' v bs := by
  obtain ⟨p, c, h1, h2, h3, h4⟩ := h
  exact ⟨p, c, h1, h2, h3, h4.below hb⟩
theorem ArgB.get {w : World} {p : Option Addr} {n c : Nat} {bs : List Int} (h : ArgB w (.slice p n c) bs) {k : Nat} (hk : k < bs.length) :
    ∃ b o, p = some ⟨b, o, none⟩ ∧ w.cell? ⟨b, o + k, none⟩ = some (.int .u8 bs[k]) ∧ 0 ≤ bs[k] ∧ bs[k] ≤ 255 := by
  obtain ⟨p', c', e, _, h3, h4⟩ := h
  cases e
  rcases h4 with h4 | ⟨b, o, rfl, h5⟩
  · rw [List.map_eq_nil_iff] at h4
    subst h4
    simp at hk
  · refine ⟨b, o, rfl, h5 k _ (by simp [hk]), h3 _ (List.getElem_mem hk)⟩

end Go.Proofs.YtfokiijcpkhllaaDoor

/- Walks: the laws' dice (big, roll, below). -/
namespace Go.Proofs.YtfokiijcpkhllaaDoor
open Go.RowKit

structure BoxD (w : World) (b : Nat) (x y z : Value) : Prop where
  blk : w.heap[b]? = some (.cells #[x, y, z] 55 (0, 0))
section
variable {w w' : World} {b : Nat} {x y z : Value}
theorem BoxD.c0 (h : BoxD w b x y z) : w.cell? ⟨b, 0, none⟩ = some x := by unfold World.cell?; rw [h.blk]; rfl
theorem BoxD.c1 (h : BoxD w b x y z) : w.cell? ⟨b, 1, none⟩ = some y := by unfold World.cell?; rw [h.blk]; rfl
theorem BoxD.c2 (h : BoxD w b x y z) : w.cell? ⟨b, 2, none⟩ = some z := by unfold World.cell?; rw [h.blk]; rfl
theorem BoxD.free (h : BoxD w b x y z) (i : Nat) : w.frozen? ⟨b, i, none⟩ = false := by simp [World.frozen?, h.blk]
theorem BoxD.lt (h : BoxD w b x y z) : b < w.heap.size := lt_of_block h.blk
theorem BoxD.new (w : World) (x y z : Value) : BoxD (w.alloc (.cells #[x, y, z] 55)) w.heap.size x y z := ⟨heap_alloc_new w _⟩
theorem BoxD.to (h : BoxD w b x y z) (hk : w'.heap[b]? = w.heap[b]?) : BoxD w' b x y z := ⟨hk.trans h.blk⟩
theorem BoxD.s1 (h : BoxD w b x y z) (u : Value) : BoxD (w.setCell ⟨b, 1, none⟩ u) b x u z := ⟨by have := heap_setCell_same w b 1 _ _ u h.blk; simpa using this⟩
theorem BoxD.s2 (h : BoxD w b x y z) (u : Value) : BoxD (w.setCell ⟨b, 2, none⟩ u) b x y u := ⟨by have := heap_setCell_same w b 2 _ _ u h.blk; simpa using this⟩
theorem BoxD.keep (h : BoxD w b x y z) (hb : Below w.heap.size w w') : BoxD w' b x y z := h.to (hb.block b h.lt)
end

theorem grown_setD (w : World) (b i : Nat) (u : Value) : w.grownBy (w.setCell ⟨b, i, none⟩ u) (some b) :=
  ⟨rfl, rfl, rfl, by rw [World.size_setCell]; exact Nat.le_refl _, fun k _ hne => Below.heap_setCell _ _ _ _ (fun e => hne (by simp only at e; rw [e]))⟩

/-- The dice stand in block db: the bytes, how many were read, a number. -/
structure Dice (w0 w : World) (db : Nat) (bs : List Int) : Prop where
  ex : ∃ (bv : Value) (i : Nat) (h : Int), BoxD w db bv (.int .i64 i) (.int .u64 h) ∧ i ≤ bs.length ∧ ArgB w0 bv bs
  few : bs.length ≤ 4096
  lo : w0.heap.size ≤ db
  bel : Below w0.heap.size w0 w
theorem Dice.keep {w0 w w' : World} {db : Nat} {bs : List Int} (h : Dice w0 w db bs) (hb : Below w.heap.size w w') : Dice w0 w' db bs := by
  obtain ⟨bv, i, z, h1, h2, h3⟩ := h.ex
  exact ⟨⟨bv, i, z, h1.keep hb, h2, h3⟩, h.few, h.lo, h.bel.trans (hb.mono h.bel.size)⟩
theorem below_grownD {w0 w w' : World} {cb : Nat} (h : Below w0.heap.size w0 w) (hg : w.grownBy w' (some cb)) (hl : w0.heap.size ≤ cb) : Below w0.heap.size w0 w' :=
  ⟨hg.os.trans h.os, hg.tape.trans h.tape, hg.output.trans h.output, Nat.le_trans h.size hg.size, fun k hk => (hg.block k (Nat.lt_of_lt_of_le hk h.size) (fun e => by simp only [Option.some.injEq] at e; omega)).trans (h.block k hk)⟩
theorem andM (x : Int) : ∃ r : Nat, bits BinOp.and IntKind.u64 x 16777215 = (r : Int) ∧ r ≤ 16777215 := by
  refine ⟨(BitVec.ofInt 64 x &&& BitVec.ofInt 64 16777215).toNat, ?_, ?_⟩
  · show IntKind.u64.wrap ((BitVec.ofInt 64 x &&& BitVec.ofInt 64 16777215).toNat : Int) = _
    have h : (BitVec.ofInt 64 x &&& BitVec.ofInt 64 16777215).toNat ≤ 16777215 := by
      rw [BitVec.toNat_and]
      exact Nat.le_trans Nat.and_le_right (by decide)
    generalize (BitVec.ofInt 64 x &&& BitVec.ofInt 64 16777215).toNat = r at h
    simp [IntKind.wrap, IntKind.bits, IntKind.signed]
    omega
  · rw [BitVec.toNat_and]
    exact Nat.le_trans Nat.and_le_right (by decide)

set_option maxRecDepth 100000 in
theorem big_any (v : Value) (bs : List Int) (w : World) (h : ArgB w v bs) :
    Calls Tryd.prog 7 #[v] w fun e w' => e = .returned (.bool (decide (4096 < bs.length))) ∧ w = w' := by
  obtain ⟨p, c, rfl, hl, _⟩ := h
  go_enter Tryd.func7, Tryd.ntmps7
  go_wp2
  go_ret
  exact ⟨ret_bool (by simp; omega), rfl⟩

set_option maxRecDepth 100000 in
set_option maxHeartbeats 4000000 in
theorem below_any (w0 : World) (cb : Nat) (bs : List Int) (k : Nat) (n : Int) (hkn : n = k) (hkp : 0 < k) (hk : k ≤ 1000000) (w : World) (hc : Dice w0 w cb bs) :
    Calls Tryd.prog 17 #[.pointer (some ⟨cb, 0, none⟩), .int .i64 n] w fun e w' => ∃ r : Nat, e = .returned (.int .i64 (r : Int)) ∧ r < k ∧ Dice w0 w' cb bs ∧ w.grownBy w' (some cb) := by
  subst hkn
  have hk0 : ((k : Int) == 0) = false := by simp; omega
  have htm : ∀ r : Nat, Int.tmod (r : Int) (k : Int) = ((r % k : Nat) : Int) := fun r => (Int.ofNat_tmod r k).symm
  have HML : Hid (∀ r : Nat, r % k < k) := Lib.hid (fun r => Nat.mod_lt r hkp)
  obtain ⟨⟨bv, i, h, hb, hi, ha⟩, few, lo, bel⟩ := hc
  obtain ⟨bp, bc, e, ha2⟩ := id ha
  subst e
  have c2 := hb.c2
  have f2 := hb.free 2
  have HB := Lib.hid hb
  have HA := Lib.hid ha
  have HBEL := Lib.hid bel
  clear ha2 ha hb bel
  go_enter Tryd.func17, Tryd.ntmps17
  go_upto_region 1 with fail
  go_cut [14] (fun _ wx => ∃ h2 : Int, wx = w.setCell ⟨cb, 2, none⟩ (.int .u64 h2))
  case first =>
    go_wp2
    go_meet
    exact ⟨_, rfl⟩
  case rest =>
    obtain ⟨h2, rfl⟩ := hcut
    have HB2 := Lib.hid (HB.out.s2 (.int .u64 h2))
    have HG2 := Lib.hid (grown_setD w cb 2 (.int .u64 h2))
    have c2 := HB2.out.c2
    obtain ⟨w2, hw2⟩ : ∃ w2, w2 = w.setCell ⟨cb, 2, none⟩ (.int .u64 h2) := ⟨_, rfl⟩
    rw [← hw2] at c2 HB2 HG2 ⊢
    clear hw2 f2
    obtain ⟨r, hr1, hr⟩ := andM (h2 / 8589934592)
    have hrw : wrap64 (bits BinOp.and IntKind.u64 (h2 / 8589934592) 16777215) = (r : Int) := by rw [hr1]; unfold wrap64; omega
    have c0 := HB2.out.c0
    have c1 := HB2.out.c1
    go_upto_region 3 with fail
    go_cut [31] (fun s wx => s = .bool (decide (i < bs.length)) ∧ Below w2.heap.size w2 wx)
    case first =>
      go_region_held3 (fun w' => w'.cell? ⟨cb, 1, none⟩ = some (.int .i64 i) ∧ w'.cell? ⟨cb, 0, none⟩ = some (.slice bp bs.length bc))
        (first | go_keep | exact ⟨c1, c0⟩)
        (fail)
      all_goals go_wp2
      all_goals go_meet
      all_goals exact ⟨rfl, below_dN (Below.refl _ _) _⟩
    case rest =>
      obtain ⟨rfl, hb4⟩ := hcut
      have HB4 := Lib.hid (HB2.out.keep hb4)
      have HG4 := Lib.hid (grown_trans HG2.out (grown_of_below hb4 _))
      have HL4 := Lib.hid (below_grownD HBEL.out HG4.out lo)
      have c0 := HB4.out.c0
      have c1 := HB4.out.c1
      clear hb4 c2
      by_cases hlt : i < bs.length
      · obtain ⟨xb, xo, rfl, hcx, hx0, hx1⟩ := (HA.out.below HL4.out).get hlt
        generalize bs[i] = x at hcx hx0 hx1
        have hdt : decide (i < bs.length) = true := by simp [hlt]
        have e0 : (0 : Int) ≤ (i : Int) := by omega
        have e1 : (i : Int) < (bs.length : Int) := by omega
        obtain ⟨y, rfl⟩ : ∃ y : Nat, x = (y : Int) := ⟨x.toNat, by omega⟩
        have hwy : IntKind.i64.wrap (y : Int) = (y : Int) := by rw [IntKind.wrap_i64]; omega
        have hws : IntKind.i64.wrap ((r : Int) + (y : Int)) = ((r + y : Nat) : Int) := by rw [IntKind.wrap_i64]; omega
        go_upto_region 4 with fail
        go_cut [5] (fun s wx => s = .int .i64 ((r + y : Nat) : Int) ∧ Below wc.heap.size wc wx)
        case first =>
          go_region_held3 (fun w' => w'.cell? ⟨cb, 1, none⟩ = some (.int .i64 i) ∧ w'.cell? ⟨cb, 0, none⟩ = some (.slice (some ⟨xb, xo, none⟩) bs.length bc) ∧ w'.cell? ⟨xb, xo + i, none⟩ = some (.int .u8 (y : Int)))
            (first | go_keep | exact ⟨c1, c0, hcx⟩)
            (fail)
          all_goals go_wp2
          all_goals go_meet
          all_goals exact ⟨by first | rfl | exact val_int (by omega), below_dN (Below.refl _ _) _⟩
        case rest =>
          obtain ⟨rfl, hb5⟩ := hcut
          have HB5 := Lib.hid (HB4.out.keep hb5)
          have HG5 := Lib.hid (grown_trans HG4.out (grown_of_below hb5 _))
          have c1 := HB5.out.c1
          have f1 := HB5.out.free 1
          have htm2 := htm (r + y)
          clear hb5 hcx c0 htm
          generalize r + y = z at *
          go_wp2
          go_ret
          have HB6 := HB5.out.s1 (.int .i64 ((i + 1 : Nat) : Int))
          have HG6 := grown_trans HG5.out (grown_setD wc cb 1 (.int .i64 ((i + 1 : Nat) : Int)))
          exact ⟨z % k, by first | rfl | (rw [← htm2]; rfl), HML.out _, ⟨⟨_, i + 1, h2, HB6, by omega, HA.out⟩, few, lo, below_grownD HBEL.out HG6 lo⟩, HG6⟩
      · have hdt : decide (i < bs.length) = false := by simp [hlt]
        have htm2 := htm r
        go_wp2
        go_ret
        exact ⟨r % k, by first | rfl | (rw [← htm2]; rfl), HML.out _, ⟨⟨_, i, h2, HB4.out, hi, HA.out⟩, few, lo, HL4.out⟩, HG4.out⟩

end Go.Proofs.YtfokiijcpkhllaaDoor

/- Walk: a graph out of its edges (the reference's GraphOf), for the draws of the laws. -/
namespace Go.Proofs.YtfokiijcpkhllaaDoor
open Go.RowKit

def SymI (E : Nat → Nat → Bool) : Prop := (∀ r j, E r j = true → E j r = true) ∧ ∀ r, E r r = false
theorem symI_none : SymI fun _ _ => false := ⟨fun _ _ h => h, fun _ => rfl⟩
theorem symI_link {E : Nat → Nat → Bool} (h : SymI E) {u v : Nat} (huv : u ≠ v) : SymI fun r j => E r j || (r == u && j == v) || (r == v && j == u) := by
  refine ⟨fun r j hE => ?_, fun r => ?_⟩
  · simp only [Bool.or_eq_true, Bool.and_eq_true, beq_iff_eq] at hE ⊢
    rcases hE with (hE | ⟨h1, h2⟩) | ⟨h1, h2⟩
    · exact .inl (.inl (h.1 _ _ hE))
    · exact .inr ⟨h2, h1⟩
    · exact .inl (.inr ⟨h2, h1⟩)
  · have h1 : ¬ (r = u ∧ r = v) := fun ⟨a, b⟩ => huv (a ▸ b)
    have h2 : ¬ (r = v ∧ r = u) := fun ⟨a, b⟩ => huv (b ▸ a)
    simp only [h.2 r, Bool.false_or, Bool.or_eq_false_iff, Bool.and_eq_false_iff, beq_eq_false_iff_ne]
    refine ⟨?_, ?_⟩
    · by_cases e : r = u
      · exact .inr fun e2 => h1 ⟨e, e2⟩
      · exact .inl e
    · by_cases e : r = v
      · exact .inr fun e2 => h2 ⟨e, e2⟩
      · exact .inl e

structure GoI (w wr : World) (B b6 n : Nat) (gp : Option Addr) (gc : Nat) (Be : Nat) (ev : Value) (l : List (Nat × Nat)) (E : Nat → Nat → Bool) : Prop where
  sg : SG wr B (.agg #[.slice gp n gc]) (matG n E)
  res : Box wr w.heap.size 29 (.slice none 0 0)
  box : Box wr b6 29 (.slice gp n gc)
  prs : PrsO wr Be ev l
  bel : Below w.heap.size w wr
  own : ∀ b, (Value.slice gp n gc).ownBlock = some b → w.heap.size < b ∧ b < b6
  far : ∀ b, ev.ownBlock = some b → b < w.heap.size
  hB : w.heap.size < B
  h6 : w.heap.size < b6
theorem GoI.next {w wr wx : World} {B b6 n : Nat} {gp : Option Addr} {gc Be : Nat} {ev : Value} {l : List (Nat × Nat)} {E : Nat → Nat → Bool} (h : GoI w wr B b6 n gp gc Be ev l E) (hb : Below wr.heap.size wr wx) : GoI w wx B b6 n gp gc Be ev l E :=
  ⟨h.sg.below hb, h.res.keep hb, h.box.keep hb, h.prs.below hb, h.bel.trans (hb.mono h.bel.size), h.own, h.far, h.hB, h.h6⟩
theorem GoI.link {w wr w2 : World} {B b6 n : Nat} {gp : Option Addr} {gc Be : Nat} {ev : Value} {l : List (Nat × Nat)} {E E' : Nat → Nat → Bool} (h : GoI w wr B b6 n gp gc Be ev l E)
    (hs : SG w2 B (.agg #[.slice gp n gc]) (matG n E')) (hg : wr.grownBy w2 (Value.slice gp n gc).ownBlock) : GoI w (w2.setCell ⟨b6, 0, none⟩ (.slice gp n gc)) B b6 n gp gc Be ev l E' := by
  have hbox := h.box.grown hg (fun e => by have := (h.own _ e.symm).2; omega)
  have hres := h.res.grown hg (fun e => by have := (h.own _ e.symm).1; omega)
  have hsg := h.sg
  have hl := matG_length n E
  obtain ⟨u0, vals, e1, hv, ho, hr⟩ := hsg
  cases e1
  rw [hl] at hv ho hr
  have hprs := h.prs.keptO ho hg (fun b hb e => by have h1 := h.far b hb; have h2 := (h.own b e).1; omega)
  have h6 := h.h6
  have hbel : Below w.heap.size w w2 := ⟨hg.os.trans h.bel.os, hg.tape.trans h.bel.tape, hg.output.trans h.bel.output, Nat.le_trans h.bel.size hg.size, fun k hk => (hg.block k (Nat.lt_of_lt_of_le hk h.bel.size) (fun e => by have := (h.own k e.symm).1; omega)).trans (h.bel.block k hk)⟩
  refine ⟨hs.setBox hbox _, hres.setOther (by show w.heap.size ≠ b6; omega) _, hbox.set _, ?_, hbel.setCell (p := ⟨b6, 0, none⟩) (Nat.le_of_lt h6) _, h.own, h.far, h.hB, h6⟩
  obtain ⟨vals2, q1, q2, q3⟩ := hprs
  exact ⟨vals2, q1, ownsRow_setBox q2 hbox (by decide) _, fun j hj => (q3 j hj).setBox hbox (by decide) _⟩

set_option maxRecDepth 100000 in
set_option maxHeartbeats 4000000 in
theorem specGraphOf_any (ev : Value) (z : Int) (n Be : Nat) (l : List (Nat × Nat)) (hz : z = n) (hn1 : 1 ≤ n) (hn16 : n ≤ 16) (hl : ∀ e ∈ l, e.1 < e.2 ∧ e.2 < n) (h120 : l.length ≤ 120) (w : World) (hp : PrsO w Be ev l) :
    Calls Tryd.prog 37 #[.int .i64 z, ev] w fun e w' => ∃ (u : Value) (E : Nat → Nat → Bool), e = .returned (.tuple #[u, .bool true]) ∧ SymI E ∧ SG w' w.heap.size u (matG n E) ∧ Below w.heap.size w w' := by
  subst hz
  obtain ⟨ep, ec, rfl⟩ := hp.shape
  have HP := Lib.hid hp
  have HL := Lib.hid hl
  have hd1 : dec ((1 : Int) ≤ (n : Int) ∧ (n : Int) ≤ 16) = true := dec_true ⟨by omega, by omega⟩
  have HD1 := Lib.hid hd1
  have HR := Lib.hid (Box.new w (.slice none 0 0) 29)
  have HB1 := Lib.hid (below_alloc w (.cells #[.slice none 0 0] 29))
  have HFAR : Hid (∀ b, (Value.slice ep l.length ec).ownBlock = some b → b < w.heap.size) := Lib.hid (fun b hb => by
    obtain ⟨vals, _, h2, _⟩ := hp
    exact (h2.lt b hb).2)
  clear hp hl hd1
  go_enter Tryd.func37, Tryd.ntmps37
  go_upto_region 4 with (first
    | (go_at_call 102; refine (l1Empty_any _ n rfl (by omega) _).mono ?_; rintro e w2 ⟨u, rfl, hs2, hb2⟩; obtain ⟨gp, gc, rfl⟩ := hs2.shape; rw [List.length_replicate] at hs2 ⊢)
    | (go_at_call 101; refine (l1In_any _ _ _ _).mono ?_; rintro e w1 ⟨he, rfl⟩; rw [HD1.out] at he; subst he))
  have hempty : matG n (fun _ _ => false) = List.replicate n [] := matG_none n fun _ _ _ _ => rfl
  rw [← hempty] at hs2
  obtain ⟨w3, hw3⟩ : ∃ w3, w3 = w2.alloc (.cells #[.slice gp n gc] 29) := ⟨_, rfl⟩
  rw [← hw3]
  have hb23 : Below w2.heap.size w2 w3 := by rw [hw3]; exact below_alloc _ _
  have s1 : (w.alloc (.cells #[.slice none 0 0] 29)).heap.size = w.heap.size + 1 := size_alloc _ _
  have s2 := hb2.size
  have START : Hid (GoI w w3 (w.heap.size + 1) w2.heap.size n gp gc Be (.slice ep l.length ec) l (fun _ _ => false)) := Lib.hid
    { sg := by rw [← s1]; exact hs2.below hb23
      res := (HR.out.keep hb2).keep hb23
      box := by rw [hw3]; exact Box.new _ _ _
      prs := ((HP.out.below HB1.out).below hb2).below hb23
      bel := (HB1.out.trans (hb2.mono HB1.out.size)).trans (hb23.mono (Nat.le_trans HB1.out.size s2))
      own := fun b hb => by
        obtain ⟨u0, vals, e1, hv, ho, hr⟩ := hs2
        cases e1
        have := ho.lt b hb
        omega
      far := HFAR.out
      hB := Nat.lt_succ_self _
      h6 := by omega }
  generalize w2.heap.size = b6 at START
  clear hb2 hs2 hw3 hb23 s1 s2 hempty HR HB1 HP
  go_upto_region 4 with fail
  go_wp2
  go_loopw [7] (fun i wr => ∃ (t : Nat) (E : Nat → Nat → Bool), i = .int .i64 t ∧ t ≤ l.length ∧ Hid (SymI E) ∧ Hid (GoI w wr (w.heap.size + 1) b6 n gp gc Be (.slice ep l.length ec) l E)) (fun i _ => l.length - (intOf i).toNat)
  case atStart => exact ⟨0, _, rfl, Nat.zero_le _, Lib.hid symI_none, START⟩
  case round =>
    clear START
    obtain ⟨t, E, rfl, ht, HSE, HG⟩ := hrel
    by_cases hlt : t < l.length
    · obtain ⟨eb, eo, rp, rc, he, hce, hne⟩ := HG.out.prs.get hlt
      subst he
      have hmem := HL.out _ (List.getElem_mem hlt)
      obtain ⟨⟨a, b⟩, hab⟩ : ∃ e : Nat × Nat, e = l[t] := ⟨_, rfl⟩
      rw [← hab] at hmem hne
      obtain ⟨hlt1, hlt2⟩ := hmem
      simp only at hlt1 hlt2 hne
      have HNE := Lib.hid hne
      have hset : SetIn (n : Int) [(a : Int), (b : Int)] := ⟨fun x hx => by
        simp only [List.mem_cons, List.not_mem_nil, or_false] at hx
        rcases hx with rfl | rfl <;> omega, by simp; omega⟩
      have HSD := Lib.hid (dec_true hset)
      clear hne hab hset
      go_upto_region 9 with (go_at_call 103; refine (l1Set_any _ [(a : Int), (b : Int)] n (by omega) (by omega) _ HNE.out).mono ?_; rintro e w5 ⟨he, hb5⟩; rw [HSD.out] at he; subst he)
      have HG5 := Lib.hid (HG.out.next hb5)
      have hce5 := hb5.at' hce
      have hne5 := HNE.out.below hb5
      obtain ⟨rb, ro, rfl, hc0⟩ := hne5.get (k := 0) (by simp)
      obtain ⟨_, _, e1, hc1⟩ := hne5.get (k := 1) (by simp)
      cases e1
      simp only [List.getElem_cons_zero, List.getElem_cons_succ, Nat.add_zero] at hc0 hc1
      have huv : a ≠ b := by omega
      have hlk : ∀ wz, wz = w5.drew → Calls Tryd.prog 104 #[.agg #[.slice gp n gc], .int .i64 (a : Int), .int .i64 (b : Int)] wz fun e w' => e = .returned (.agg #[.slice gp n gc]) ∧ SG w' (w.heap.size + 1) (.agg #[.slice gp n gc]) (matG n (fun r j => E r j || (r == a && j == b) || (r == b && j == a))) ∧ wz.grownBy w' (Value.slice gp n gc).ownBlock := by
        rintro wz rfl
        have hml := matG_length n E
        have := l1Link_any gp gc (matG n E) a b a b (w.heap.size + 1) rfl rfl (by rw [hml]; omega) (by rw [hml]; omega) (fun j _ => Nat.le_trans (matG_row_le j) (by omega)) w5.drew (by rw [hml]; exact HG5.out.sg.below (below_dN (Below.refl _ _) 1))
        rw [hml, link_matG (by omega) hlt2 huv] at this
        exact this
      have Hlk := Lib.hid hlk
      have hb6c := HG5.out.box.cell
      have hb6f := HG5.out.box.free
      have HSN := Lib.hid (symI_link HSE.out huv)
      clear hlk hne5 hb5 hce
      go_region_law (first | (go_simp; go_at_call 104; refine (Hlk.out _ rfl).mono ?_; rintro e w6 ⟨rfl, hs6, hg6⟩; have hg6' : w5.grownBy w6 (Value.slice gp n gc).ownBlock := ⟨hg6.os, (hg6.tape).trans rfl, hg6.output, hg6.size, hg6.block⟩; have hbx := HG5.out.box.grown hg6' (fun e => by have := (HG5.out.own _ e.symm).2; omega); have hc6 := hbx.cell; have hf6 := hbx.free))
      all_goals go_wp2
      all_goals go_roundw
      all_goals first
        | exact ⟨t + 1, _, by go_num, by omega, HSN, Lib.hid (HG5.out.link hs6 hg6')⟩
        | (simp [intOf]; omega)
    · obtain rfl : t = l.length := by omega
      have hb6c := HG.out.box.cell
      obtain ⟨nc, nf, _, _⟩ := HG.out.res
      go_wp2
      refine bodyPost_ret (v := .tuple #[.agg #[.slice gp n gc], .bool true]) (by simp [results, Tryd.results37, go_sem, nc]) rfl ⟨_, E, rfl, HSE.out, SG.base (HG.out.sg.setBox HG.out.res _) (Nat.le_succ _), ?_⟩
      exact HG.out.bel.setCell (p := ⟨w.heap.size, 0, none⟩) (Nat.le_refl _) _

end Go.Proofs.YtfokiijcpkhllaaDoor

/- Walks: the laws' graphs by dice (printed by wip/mkW6.py). -/
namespace Go.Proofs.YtfokiijcpkhllaaDoor
open Go.RowKit

theorem dice_far {w0 w : World} {db : Nat} {bs : List Int} (h : Dice w0 w db bs) {cur : Array Value} {E : TypeId} {fz : Nat × Nat} {b : Nat} (hE : E ≠ 55) (hb : w.heap[b]? = some (.cells cur E fz)) : b ≠ db := by
  obtain ⟨bv, i, z, h1, _⟩ := h.ex
  intro e
  subst e
  rw [h1.blk] at hb
  simp only [Option.some.injEq, Obj.cells.injEq] at hb
  exact hE hb.2.1.symm
theorem Sl.diced {w0 w w' : World} {db : Nat} {bs : List Int} (h : Dice w0 w db bs) (hg : w.grownBy w' (some db)) {E : TypeId} (hE : E ≠ 55) {v : Value} {n : Nat} {vals : List Value} (hs : Sl w E v n vals) : Sl w' E v n vals :=
  hs.keep fun b cur fz hb => hg.block b (Array.getElem?_eq_some_iff.1 hb).1 (fun e => dice_far h hE hb (by simpa using e))
theorem ownsRow_diced {w0 w w' : World} {db : Nat} {bs : List Int} (h : Dice w0 w db bs) (hg : w.grownBy w' (some db)) {E : TypeId} (hE : E ≠ 55) {base size n : Nat} {v : Value} {xs : List Value} (ho : w.ownsRow base E size v n xs) : w'.ownsRow base E size v n xs :=
  ho.kept hg (by
    rcases ho.2 with ⟨rfl, _⟩ | ⟨g, cap, cur, rfl, _, hgg, _⟩
    · exact .inl rfl
    · exact .inr fun e => dice_far h hE hgg (by simpa [Value.ownBlock] using e))
theorem Box.diced {w0 w w' : World} {db : Nat} {bs : List Int} (h : Dice w0 w db bs) (hg : w.grownBy w' (some db)) {T : TypeId} (hT : T ≠ 55) {b : Nat} {v : Value} (hb : Box w b T v) : Box w' b T v :=
  hb.grown hg (fun e => dice_far h hT hb.blk (by simpa using e))
theorem PrsO.diced {w0 w w' : World} {db : Nat} {bs : List Int} (h : Dice w0 w db bs) (hg : w.grownBy w' (some db)) {base : Nat} {ev : Value} {l : List (Nat × Nat)} (hp : PrsO w base ev l) : PrsO w' base ev l := by
  obtain ⟨vals, h1, h2, h3⟩ := hp
  exact ⟨vals, h1, ownsRow_diced h hg (by decide) h2, fun j hj => Sl.diced h hg (by decide) (h3 j hj)⟩
theorem grown_new {w w' : World} {r : Option Nat} (h : w.grownBy w' r) {b i : Nat} (hb : w.heap.size ≤ b) (u : Value) : w.grownBy (w'.setCell ⟨b, i, none⟩ u) r :=
  ⟨h.os, h.tape, h.output, by rw [World.size_setCell]; exact h.size, fun k hk hne => (Below.heap_setCell _ _ _ _ (by show k ≠ b; omega)).trans (h.block k hk hne)⟩

/-- The edges so far, beside the dice. -/
structure W6I (w0 w wr : World) (db : Nat) (bs : List Int) (ev : Value) (l : List (Nat × Nat)) (n m : Nat) : Prop where
  dice : Dice w0 wr db bs
  gr : w.grownBy wr (some db)
  prs : PrsO wr w.heap.size ev l
  res : Box wr w.heap.size 29 (.slice none 0 0)
  ok : ∀ e ∈ l, e.1 < e.2 ∧ e.2 < n
  len : l.length ≤ m
theorem W6I.more {w0 w wr : World} {db : Nat} {bs : List Int} {ev : Value} {l : List (Nat × Nat)} {n m m' : Nat} (h : W6I w0 w wr db bs ev l n m) (hm : m ≤ m') : W6I w0 w wr db bs ev l n m' :=
  ⟨h.dice, h.gr, h.prs, h.res, h.ok, Nat.le_trans h.len hm⟩
theorem W6I.throw {w0 w wr w2 : World} {db : Nat} {bs : List Int} {ev : Value} {l : List (Nat × Nat)} {n m : Nat} (h : W6I w0 w wr db bs ev l n m) (hd : Dice w0 w2 db bs) (hg : wr.grownBy w2 (some db)) : W6I w0 w w2 db bs ev l n m :=
  ⟨hd, grown_trans h.gr hg, h.prs.diced h.dice hg, h.res.diced h.dice hg (by decide), h.ok, h.len⟩
theorem W6I.put {w0 w wr w7 : World} {db : Nat} {bs : List Int} {ev ev' : Value} {l : List (Nat × Nat)} {n m a b : Nat} {vals : List Value} (h : W6I w0 w wr db bs ev l n m) (hdb : db < w.heap.size) (hab : a < b) (hbn : b < n) (hv1 : vals.length = l.length) (hv2 : wr.ownsRow w.heap.size 32 1 ev l.length vals) (hv3 : ∀ j, j < l.length → Nums wr 2 .i64 (vals.getD j undef) (row (prsL l) j))
    (ho : w7.ownsRow w.heap.size 32 1 ev' (l.length + 1) (vals ++ [.slice (some ⟨wr.heap.size, 0, none⟩) 2 2])) (hg : (wr.alloc (.cells #[.int .i64 a, .int .i64 b] 2)).grownBy w7 ev.ownBlock) : W6I w0 w w7 db bs ev' (l ++ [(a, b)]) n (m + 1) := by
  have ha := below_alloc wr (.cells #[.int .i64 a, .int .i64 b] 2)
  have hv2' := ownsRow_below hv2 ha
  have hrow : Nums (wr.alloc (.cells #[.int .i64 a, .int .i64 b] 2)) 2 .i64 (.slice (some ⟨wr.heap.size, 0, none⟩) 2 2) [(a : Int), (b : Int)] :=
    Nums.of_owns (World.ownsRow_lit (size := 1) wr #[.int .i64 a, .int .i64 b] 2 (Nat.le_refl wr.heap.size) (by decide) rfl) rfl (by decide)
  have hne : ∀ k, ev.ownBlock = some k → w.heap.size ≤ k := fun k hk => (hv2.lt k hk).1
  have hg' : w.grownBy w7 (some db) := ⟨hg.os.trans (ha.os.trans h.gr.os), hg.tape.trans (ha.tape.trans h.gr.tape), hg.output.trans (ha.output.trans h.gr.output), Nat.le_trans h.gr.size (Nat.le_trans ha.size hg.size), fun k hk hkd => (hg.block k (Nat.lt_of_lt_of_le (Nat.lt_of_lt_of_le hk h.gr.size) ha.size) (fun e => by have := hne k e.symm; omega)).trans ((ha.block k (Nat.lt_of_lt_of_le hk h.gr.size)).trans (h.gr.block k hk hkd))⟩
  refine ⟨?_, hg', PrsO.snoc (e := (a, b)) hv1 hv2' (fun j hj => (hv3 j hj).below ha) ho hg hrow, ?_, ?_, ?_⟩
  · have hd := h.dice.keep ha
    obtain ⟨bv, i, z, q1, q2, q3⟩ := hd.ex
    refine ⟨⟨bv, i, z, q1.to (hg.block db q1.lt (fun e => ?_)), q2, q3⟩, hd.few, hd.lo, ?_⟩
    · have := hne db e.symm
      omega
    · have hlo := h.dice.lo
      exact ⟨hg.os.trans hd.bel.os, hg.tape.trans hd.bel.tape, hg.output.trans hd.bel.output, Nat.le_trans hd.bel.size hg.size, fun k hk => (hg.block k (Nat.lt_of_lt_of_le hk hd.bel.size) (fun e => by have := hne k e.symm; omega)).trans (hd.bel.block k hk)⟩
  · refine (h.res.keep ha).grown hg (fun e => ?_)
    have h1 := (h.res.keep ha).blk
    rcases hv2'.2 with ⟨e2, _⟩ | ⟨g, cap, cur, e2, _, hgg, _⟩
    · rw [e2] at e; simp [Value.ownBlock] at e
    · rw [e2] at e
      have : w.heap.size = g := by simpa [Value.ownBlock] using e
      subst this
      rw [h1] at hgg
      simp only [Option.some.injEq, Obj.cells.injEq] at hgg
      exact absurd hgg.2.1 (by decide)
  · intro e he
    rcases List.mem_append.1 he with he | he
    · exact h.ok e he
    · obtain rfl : e = (a, b) := by simpa using he
      exact ⟨hab, hbn⟩
  · rw [List.length_append]; have := h.len; simp; omega

set_option maxRecDepth 100000 in
set_option maxHeartbeats 4000000 in
theorem w9Graph_any (w0 : World) (db : Nat) (bs : List Int) (most : Nat) (z : Int) (hz : z = most) (hm1 : 1 ≤ most) (hm : most ≤ 10) (w : World) (hd : Dice w0 w db bs) (hdb : db < w.heap.size) :
    Calls Tryd.prog 9 #[.pointer (some ⟨db, 0, none⟩), .int .i64 z] w fun e w' => ∃ (u : Value) (n : Nat) (E : Nat → Nat → Bool), e = .returned u ∧ 1 ≤ n ∧ n ≤ most ∧ SymI E ∧ SG w' w.heap.size u (matG n E) ∧ Dice w0 w' db bs ∧ w.grownBy w' (some db) := by
  subst hz
  have HD := Lib.hid hd
  have HDB := Lib.hid hdb
  have HR := Lib.hid (Box.new w (.slice none 0 0) 29)
  have HB1 := Lib.hid (below_alloc w (.cells #[.slice none 0 0] 29))
  clear hd hdb
  go_enter Tryd.func9, Tryd.ntmps9
  go_upto_region 2 with (go_at_call 17; refine (below_any w0 db bs most _ rfl (by omega) (by omega) _ (HD.out.keep HB1.out)).mono ?_; rintro e w2 ⟨r, rfl, hr, hd2, hg2⟩; have HD2 := Lib.hid hd2; have HG2 := Lib.hid hg2; obtain ⟨n, hn⟩ : ∃ n : Nat, n = r + 1 := ⟨_, rfl⟩; have hnr : (1 : Int) + (r : Int) = (n : Int) := (by omega); have hn1 : 1 ≤ n := (by omega); have hn10 : n ≤ most := (by omega); clear hd2 hg2 hn hr)
  go_upto_region 3 with (go_at_call 17; refine (below_any w0 db bs 3 _ rfl (by omega) (by omega) _ HD2.out).mono ?_; rintro e w3 ⟨r3, rfl, hr3, hd3, hg3⟩; have HD3 := Lib.hid hd3; have HG3 := Lib.hid hg3; obtain ⟨c, hc⟩ : ∃ c : Nat, c = 1 + r3 := ⟨_, rfl⟩; have hcr : (1 : Int) + (r3 : Int) = (c : Int) := (by omega); have hc4 : c < 4 := (by omega); clear hd3 hg3 hc hr3)
  have HST : Hid (W6I w0 w (w3.alloc (.cells #[] 32)) db bs (.slice (some ⟨w3.heap.size, 0, none⟩) 0 0) [] n (1 * n)) := Lib.hid
    { dice := HD3.out.keep (below_alloc _ _)
      gr := grown_trans (grown_trans (grown_trans (grown_of_below HB1.out _) HG2.out) HG3.out) (grown_of_below (below_alloc _ _) _)
      prs := PrsO.nil w3 w.heap.size (by have h1 := HB1.out.size; have h2 := HG2.out.size; have h3 := HG3.out.size; omega)
      res := ((HR.out.diced (HD.out.keep HB1.out) HG2.out (by decide)).diced HD2.out HG3.out (by decide)).alloc _
      ok := fun e he => by simp at he
      len := Nat.zero_le _ }
  clear HD2 HG2 HD3 HG3 HR HB1 HD hnr hcr
  go_wp2
  go_loopw [7, 8] (fun ev v wr => ∃ (l : List (Nat × Nat)) (k : Nat), v = .int .i64 k ∧ 1 ≤ k ∧ k ≤ n ∧ Hid (W6I w0 w wr db bs ev l n (k * n))) (fun _ v _ => n - (intOf v).toNat)
  case atStart => exact ⟨[], 1, rfl, Nat.le_refl _, hn1, HST⟩
  case round =>
    clear HST
    obtain ⟨l, k, rfl, hk1, hk, HI⟩ := hrel
    obtain ⟨ep, ec, rfl⟩ := HI.out.prs.shape
    by_cases hlt : k < n
    · obtain ⟨wo, rfl⟩ : ∃ wo, wo = wr := ⟨_, rfl⟩
      go_wp2
      go_loopw [7, 9] (fun ev u wx => ∃ (l : List (Nat × Nat)) (j : Nat), u = .int .i64 j ∧ j ≤ k ∧ Hid (W6I w0 w wx db bs ev l n (k * n + j))) (fun _ u _ => k - (intOf u).toNat)
      case atStart => exact ⟨l, 0, rfl, Nat.zero_le _, HI⟩
      case round =>
        clear HI
        obtain ⟨l, j, rfl, hj, HI⟩ := hrel
        obtain ⟨ep, ec, rfl⟩ := HI.out.prs.shape
        have hll : l.length < 1000000000 := by
          have h1 := HI.out.len
          have h2 : k * n ≤ 10 * 10 := Nat.mul_le_mul (by omega) (by omega)
          omega
        by_cases hjl : j < k
        · go_upto_region 10 with fail
          go_cut [33] (fun s wx => ∃ b : Bool, s = .bool b ∧ Hid (W6I w0 w wx db bs (.slice ep l.length ec) l n (k * n + j)))
          case first =>
            go_wp2_with (go_at_call 17; refine (below_any w0 db bs 4 _ rfl (by omega) (by omega) _ HI.out.dice).mono ?_; rintro e w4 ⟨r4, rfl, hr4, hd4, hg4⟩; have HI4 := Lib.hid (HI.out.throw hd4 hg4); clear hd4 hg4)
            go_meet
            exact ⟨_, rfl, HI4⟩
          case rest =>
            obtain ⟨b, rfl, HI4⟩ := hcut
            clear HI
            cases b
            · go_wp2
              go_roundw
              case rel => exact ⟨l, j + 1, by go_num, by omega, Lib.hid (HI4.out.more (by omega))⟩
              case measure => simp [intOf]; omega
            · obtain ⟨vals, hv1, hv2, hv3⟩ := HI4.out.prs
              have HV1 := Lib.hid hv1
              have HV3 := Lib.hid hv3
              have hsz := HI4.out.gr.size
              clear hv1 hv3
              go_wp2_with (at_builtin; refine wpList_app1s ty_rows64 rfl rfl rfl (hv2.alloc (.cells #[.int .i64 j, .int .i64 k] 2)) (by rw [size_alloc]; rfl) rfl hll (by rw [size_alloc]; omega) ?_; intro b7 c8 w7 hown7 hg7 _)
              go_roundw
              case rel => exact ⟨l ++ [(j, k)], j + 1, by go_num, by omega, Lib.hid (HI4.out.put HDB.out hjl hlt HV1.out hv2 HV3.out hown7 hg7)⟩
              case measure => simp [intOf]; omega
        · obtain rfl : j = k := by omega
          go_wp2
          go_roundw
          case rel => exact ⟨l, j + 1, by go_num, by omega, by omega, Lib.hid (HI.out.more (by rw [Nat.succ_mul]; omega))⟩
          case measure => simp [intOf]; omega
    · obtain rfl : k = n := by omega
      have h120 : l.length ≤ 120 := by
        have h1 := HI.out.len
        have h2 : k * k ≤ 10 * 10 := Nat.mul_le_mul (by omega) (by omega)
        omega
      go_upto_region 13 with (go_at_call 37; refine (specGraphOf_any _ _ k w.heap.size l rfl hn1 (by omega) HI.out.ok h120 _ HI.out.prs).mono ?_; rintro e w5 ⟨u, E, rfl, hse, hsg, hb5⟩; obtain ⟨gp, gc, rfl⟩ := hsg.shape; rw [matG_length] at hsg ⊢)
      obtain ⟨w6, hw6⟩ : ∃ w6, w6 = w5.alloc (.cells #[.slice gp k gc] 29) := ⟨_, rfl⟩
      rw [← hw6]
      have hb56 : Below w5.heap.size w5 w6 := by rw [hw6]; exact below_alloc _ _
      have hbx6 : Box w6 w5.heap.size 29 (.slice gp k gc) := by rw [hw6]; exact Box.new _ _ _
      have hb6 := hb5.trans (hb56.mono hb5.size)
      have hr6 := HI.out.res.keep hb6
      have hc1 := hbx6.cell
      have hc2 := hr6.cell
      have hf2 := hr6.free
      have HR6 := Lib.hid hr6
      have HB6 := Lib.hid hb6
      have HS6 := Lib.hid (hsg.below hb56)
      have HSE := Lib.hid hse
      have s1 := HI.out.gr.size
      clear hw6 hb56 hbx6 hb5 hb6 hr6 hsg hse
      go_wp2
      obtain ⟨nc, nf, _, _⟩ := HR6.out.set (.slice gp k gc)
      have hfin : w.grownBy (w6.setCell ⟨w.heap.size, 0, none⟩ (.slice gp k gc)) (some db) := grown_new (grown_trans HI.out.gr (grown_of_below HB6.out _)) (Nat.le_refl _) _
      have hdc := HI.out.dice.keep HB6.out
      obtain ⟨bv, i, z, q1, q2, q3⟩ := hdc.ex
      have hdb2 := HDB.out
      have hlo := hdc.lo
      refine bodyPost_ret (v := .agg #[.slice gp k gc]) (by simp [results, Tryd.results9, go_sem, nc]) rfl ⟨_, k, E, rfl, hn1, hn10, HSE.out, SG.base (HS6.out.setBox HR6.out _) s1, ⟨⟨bv, i, z, q1.to (Below.heap_setCell _ _ _ _ (by show db ≠ w.heap.size; omega)), q2, q3⟩, hdc.few, hlo, hdc.bel.setCell (p := ⟨w.heap.size, 0, none⟩) (by show w0.heap.size ≤ w.heap.size; omega) _⟩, hfin⟩

end Go.Proofs.YtfokiijcpkhllaaDoor

/- Walk: the laws' dice thrown (roll). -/
namespace Go.Proofs.YtfokiijcpkhllaaDoor
open Go.RowKit

set_option maxRecDepth 100000 in
set_option maxHeartbeats 4000000 in
theorem roll_any (v : Value) (bs : List Int) (s : Int) (hl : bs.length ≤ 4096) (w : World) (ha : ArgB w v bs) :
    Calls Tryd.prog 8 #[v, .int .u64 s] w fun e w' => ∃ db : Nat, e = .returned (.pointer (some ⟨db, 0, none⟩)) ∧ Dice w w' db bs ∧ Below w.heap.size w w' := by
  obtain ⟨p, c, e, _⟩ := id ha
  subst e
  have HA := Lib.hid ha
  clear ha
  go_enter Tryd.func8, Tryd.ntmps8
  go_upto_region 1 with fail
  go_cut [5] (fun s5 wx => ∃ h : Int, s5 = .pointer (some ⟨w.heap.size, 0, none⟩) ∧ wx = w.alloc (.cells #[.slice p bs.length c, .int .i64 0, .int .u64 h] 55))
  case first =>
    go_wp2
    go_meet
    exact ⟨_, rfl, rfl⟩
  case rest =>
  obtain ⟨h, rfl, rfl⟩ := hcut
  go_wp2
  go_loopw [6] (fun i wr => ∃ (k : Nat) (z : Int), i = .int .i64 k ∧ k ≤ bs.length ∧ BoxD wr w.heap.size (.slice p bs.length c) (.int .i64 0) (.int .u64 z) ∧ Below w.heap.size w wr) (fun i _ => bs.length - (intOf i).toNat)
  case atStart => exact ⟨0, h, rfl, Nat.zero_le _, BoxD.new _ _ _ _, below_alloc _ _⟩
  case round =>
    obtain ⟨k, z, rfl, hk, hb, hbel⟩ := hrel
    have HB := Lib.hid hb
    have HBEL := Lib.hid hbel
    have c2 := hb.c2
    have f2 := hb.free 2
    clear hb hbel
    by_cases hlt : k < bs.length
    · obtain ⟨xb, xo, rfl, hcx, hx0, hx1⟩ := (HA.out.below HBEL.out).get hlt
      generalize bs[k] = x at hcx hx0 hx1
      go_upto_region 5 with fail
      go_region_with (fail)
      all_goals go_wp2
      all_goals go_roundw
      all_goals first
        | exact ⟨k + 1, _, by go_num, by omega, (HB.out.keep (below_dN (Below.refl _ _) _)).s2 _, (HBEL.out.trans ((below_dN (Below.refl wr.heap.size wr) _).mono HBEL.out.size)).setCell (p := ⟨w.heap.size, 2, none⟩) (Nat.le_refl _) _⟩
        | (simp [intOf]; omega)
    · obtain rfl : k = bs.length := by omega
      go_wp2
      go_ret
      exact ⟨_, rfl, ⟨⟨_, 0, z, HB.out, Nat.zero_le _, HA.out⟩, hl, Nat.le_refl _, HBEL.out⟩, HBEL.out⟩

end Go.Proofs.YtfokiijcpkhllaaDoor
