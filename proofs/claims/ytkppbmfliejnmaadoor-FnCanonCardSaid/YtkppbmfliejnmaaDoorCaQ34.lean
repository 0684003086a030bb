/- Walks: the reference's draws: a cursor made (l1New), numbers (l1Odd, l1Min, l1Num). -/
import Derived.Test.YtkppbmfliejnmaaDoorCaQ31
import Derived.Test.YtkppbmfliejnmaaDoorCaQ33
import Derived.Test.YtkppbmfliejnmaaDoorCaQ25
namespace Go.Proofs.YtkppbmfliejnmaaDoor
open Go.RowKit

theorem cur_far {w0 w : World} {cb : Nat} {bs : List Int} (h : Cur w0 w cb bs) {cur : Array Value} {E : TypeId} {fz : Nat × Nat} {b : Nat} (hE : E ≠ 153) (hb : w.heap[b]? = some (.cells cur E fz)) : b ≠ cb := by
  obtain ⟨bv, i, z, h1, _⟩ := h.ex
  intro e
  subst e
  rw [h1.blk] at hb
  simp only [Option.some.injEq, Obj.cells.injEq] at hb
  exact hE hb.2.1.symm
theorem Sl.cured {w0 w w' : World} {cb : Nat} {bs : List Int} (h : Cur w0 w cb bs) (hg : w.grownBy w' (some cb)) {E : TypeId} (hE : E ≠ 153) {v : Value} {n : Nat} {vals : List Value} (hs : Sl w E v n vals) : Sl w' E v n vals :=
  hs.keep fun b cur fz hb => hg.block b (Array.getElem?_eq_some_iff.1 hb).1 (fun e => cur_far h hE hb (by simpa using e))
theorem ownsRow_cured {w0 w w' : World} {cb : Nat} {bs : List Int} (h : Cur w0 w cb bs) (hg : w.grownBy w' (some cb)) {E : TypeId} (hE : E ≠ 153) {base size n : Nat} {v : Value} {xs : List Value} (ho : w.ownsRow base E size v n xs) : w'.ownsRow base E size v n xs :=
  ho.kept hg (by
    rcases ho.2 with ⟨rfl, _⟩ | ⟨g, cap, cur, rfl, _, hgg, _⟩
    · exact .inl rfl
    · exact .inr fun e => cur_far h hE hgg (by simpa [Value.ownBlock] using e))
theorem Box.cured {w0 w w' : World} {cb : Nat} {bs : List Int} (h : Cur w0 w cb bs) (hg : w.grownBy w' (some cb)) {T : TypeId} (hT : T ≠ 153) {b : Nat} {v : Value} (hb : Box w b T v) : Box w' b T v :=
  hb.grown hg (fun e => cur_far h hT hb.blk (by simpa using e))
theorem DG.cured {w0 w w' : World} {cb : Nat} {bs : List Int} (h : Cur w0 w cb bs) (hg : w.grownBy w' (some cb)) {base : Nat} {v : Value} {g : List (List Int)} (hs : DG w base v g) : DG w' base v g := by
  obtain ⟨u, vals, h1, h2, h3, h4⟩ := hs
  exact ⟨u, vals, h1, h2, ownsRow_cured h hg (by decide) h3, ⟨fun j hj => ownsRow_cured h hg (by decide) (h4.rows j hj), h4.dis⟩⟩

set_option maxRecDepth 100000 in
set_option maxHeartbeats 4000000 in
theorem l1New_any (v : Value) (bs : List Int) (hl : bs.length ≤ 4096) (w : World) (ha : ArgB w v bs) :
    Calls Tryd.prog 126 #[v] w fun e w' => ∃ cb : Nat, e = .returned (.pointer (some ⟨cb, 0, none⟩)) ∧ Cur w w' cb bs ∧ Below w.heap.size w w' := by
  obtain ⟨p, c, e, _⟩ := id ha
  subst e
  have HA := Lib.hid ha
  clear ha
  go_enter Tryd.func126, Tryd.ntmps126
  go_wp2
  go_loopw [3, 4] (fun h i wr => ∃ (k : Nat) (z : Int), i = .int .i64 k ∧ h = .int .i64 z ∧ k ≤ bs.length ∧ wr = w) (fun _ i _ => bs.length - (intOf i).toNat)
  case atStart => exact ⟨0, _, rfl, rfl, Nat.zero_le _, rfl⟩
  case round =>
    obtain ⟨k, z, rfl, rfl, hk, rfl⟩ := hrel
    by_cases hlt : k < bs.length
    · obtain ⟨xb, xo, rfl, hcx, hx0, hx1⟩ := HA.out.get hlt
      generalize bs[k] = x at hcx hx0 hx1
      go_wp2
      go_roundw
      case rel => exact ⟨k + 1, _, by go_num, rfl, by omega, trivial⟩
      case measure => simp [intOf]; omega
    · obtain rfl : k = bs.length := by omega
      go_wp2
      go_ret
      exact ⟨_, rfl, ⟨⟨_, 0, z, BoxC.new _ _ _ _, Nat.zero_le _, HA.out⟩, hl, Nat.le_refl _, below_alloc _ _⟩, below_alloc _ _⟩

theorem l1Min_any (x y : Int) (w : World) : Calls Tryd.prog 209 #[.int .i64 x, .int .i64 y] w fun e w' => e = .returned (.int .i64 (min x y)) ∧ w = w' := by
  by_cases h : x < y
  · have hm : Hid (min x y = x) := Lib.hid (by omega)
    go_enter Tryd.func209, Tryd.ntmps209
    go_wp2
    go_ret
    exact ⟨by rw [hm.out]; rfl, rfl⟩
  · have hm : Hid (min x y = y) := Lib.hid (by omega)
    go_enter Tryd.func209, Tryd.ntmps209
    go_wp2
    go_ret
    exact ⟨by rw [hm.out]; rfl, rfl⟩

theorem lit_nums (w : World) (xs : List Int) (hl : xs.length ≤ 1000) : Nums (w.alloc (.cells (xs.map (Value.int .i64)).toArray 2)) 2 .i64 (.slice (some ⟨w.heap.size, 0, none⟩) xs.length xs.length) xs := by
  have := World.ownsRow_lit w (xs.map (Value.int .i64)).toArray xs.length (base := w.heap.size) (e := 2) (size := 1) (Nat.le_refl _) (by unfold maxLen; omega) (by simp)
  exact Nums.of_owns (by simpa using this) rfl (by omega)

set_option maxRecDepth 100000 in
set_option maxHeartbeats 4000000 in
theorem l1Odd_any (w0 : World) (cb : Nat) (bs : List Int) (w : World) (hc : Cur w0 w cb bs) :
    Calls Tryd.prog 149 #[.pointer (some ⟨cb, 0, none⟩)] w fun e w' => ∃ z : Int, e = .returned (.int .i64 z) ∧ Cur w0 w' cb bs ∧ w.grownBy w' (some cb) := by
  have HB := Lib.hid (below_alloc w (.cells #[.int .i64 (-1), .int .i64 0, .int .i64 1, .int .i64 2147483648, .int .i64 (-2147483648), .int .i64 1099511627776, .int .i64 4611686018427387904, .int .i64 (-4611686018427387904), .int .i64 9223372036854775807, .int .i64 (-9223372036854775808)] 2))
  have HC := Lib.hid (hc.keep HB.out)
  have HL := Lib.hid (lit_nums w [-1, 0, 1, 2147483648, -2147483648, 1099511627776, 4611686018427387904, -4611686018427387904, 9223372036854775807, -9223372036854775808] (by simp))
  clear hc
  go_enter Tryd.func149, Tryd.ntmps149
  go_wp2_with go_loud (go_at_call 148; refine (l1Below_any w0 cb bs 10 (by decide) _ HC.out).mono ?_; rintro e w2 ⟨r, rfl, hr, _, hc2, hg2⟩; have HC2 := Lib.hid hc2; have HG2 := Lib.hid hg2; have hr10 := hr (by decide); (obtain ⟨_, _, e1, hcell⟩ := (show Nums w2 2 .i64 _ _ from Sl.cured HC.out hg2 (by decide) HL.out).get (k := r) (by simp; omega)); cases e1; rw [Nat.zero_add] at hcell; (obtain ⟨zz, hzz⟩ : ∃ z : Int, w2.cell? ⟨w.heap.size, r, none⟩ = some (.int .i64 z) := ⟨_, hcell⟩); (have hr0 : (r : Int) < 10 := hr10); clear hcell hr hc2 hg2 hr10)
  go_ret
  exact ⟨_, rfl, HC2.out, grown_trans (grown_of_below HB.out _) HG2.out⟩

set_option maxRecDepth 100000 in
set_option maxHeartbeats 4000000 in
theorem l1Num_any (w0 : World) (cb : Nat) (bs : List Int) (n : Int) (hn0 : 0 ≤ n) (hn : n ≤ 1000000) (w : World) (hc : Cur w0 w cb bs) :
    Calls Tryd.prog 151 #[.pointer (some ⟨cb, 0, none⟩), .int .i64 n] w fun e w' => ∃ z : Int, e = .returned (.int .i64 z) ∧ Cur w0 w' cb bs ∧ w.grownBy w' (some cb) := by
  have HC := Lib.hid hc
  have hwr : IntKind.i64.wrap (n + 1) = n + 1 := by rw [IntKind.wrap_i64]; omega
  clear hc
  go_enter Tryd.func151, Tryd.ntmps151
  go_upto_if 6 with (go_at_call 129; refine (l1Once_any w0 cb bs 10 (by decide) _ HC.out).mono ?_; rintro e w2 ⟨b, rfl, hc2, hg2⟩; have HC2 := Lib.hid hc2; have HG2 := Lib.hid hg2; clear hc2 hg2)
  cases b
  · go_upto_if 18 with (go_at_call 129; refine (l1Once_any w0 cb bs 2 (by decide) _ HC2.out).mono ?_; rintro e w3 ⟨b, rfl, hc2, hg2⟩; have HC3 := Lib.hid hc2; have HG3 := Lib.hid (grown_trans HG2.out hg2); clear hc2 hg2)
    cases b
    · go_wp2_with (go_at_call 148; refine (l1Below_any w0 cb bs (n + 1) (by omega) _ HC3.out).mono ?_; rintro e w4 ⟨r, rfl, _, _, hc2, hg2⟩; have HC4 := Lib.hid hc2; have HG4 := Lib.hid (grown_trans HG3.out hg2); clear hc2 hg2)
      go_ret
      exact ⟨_, rfl, HC4.out, HG4.out⟩
    · have hmn : 0 ≤ min n 4 ∧ min n 4 ≤ 4 := by omega
      have hwr2 : IntKind.i64.wrap (min n 4 + 1) = min n 4 + 1 := by rw [IntKind.wrap_i64]; omega
      have HMI := Lib.hid (l1Min_any n 4)
      obtain ⟨mn, hm⟩ : ∃ mn, mn = min n 4 := ⟨_, rfl⟩
      rw [← hm] at hmn hwr2 HMI
      clear hm
      go_wp2_with (first
        | (go_at_call 148; refine (l1Below_any w0 cb bs (mn + 1) (by omega) _ HC3.out).mono ?_; rintro e w4 ⟨r, rfl, _, _, hc2, hg2⟩; have HC4 := Lib.hid hc2; have HG4 := Lib.hid (grown_trans HG3.out hg2); clear hc2 hg2)
        | (go_at_call 209; refine (HMI.out _).mono ?_; rintro e wm ⟨rfl, rfl⟩))
      go_ret
      exact ⟨_, rfl, HC4.out, HG4.out⟩
  · go_wp2_with (first
      | (go_at_call 148; refine (l1Below_any w0 cb bs 4 (by decide) _ HC4.out).mono ?_; rintro e w5 ⟨r, rfl, hr, _, hc2, hg2⟩; have HC5 := Lib.hid hc2; have HG5 := Lib.hid (grown_trans HG4.out hg2); have hr4 := hr (by decide); (obtain ⟨_, _, e1, hcell⟩ := (show Nums w5 2 .i64 _ _ from Sl.cured HC4.out hg2 (by decide) HL.out).get (k := r) (by simp; omega)); cases e1; rw [Nat.zero_add] at hcell; (obtain ⟨zz, hzz⟩ : ∃ z : Int, w5.cell? ⟨w3.heap.size, r, none⟩ = some (.int .i64 z) := ⟨_, hcell⟩); (have hr0 : (r : Int) < 4 := hr4); clear hcell hr hc2 hg2 hr4)
      | (go_at_call 149; refine (l1Odd_any w0 cb bs _ HC2.out).mono ?_; rintro e w3 ⟨od, rfl, hc2, hg2⟩; have HC3 := Lib.hid hc2; have HG3 := Lib.hid (grown_trans HG2.out hg2); clear hc2 hg2; have HB3 := Lib.hid (below_alloc w3 (.cells #[.int .i64 (-1), .int .i64 n, .int .i64 (n + 1), .int .i64 od] 2)); have HC4 := Lib.hid (HC3.out.keep HB3.out); have HG4 := Lib.hid (grown_trans HG3.out (grown_of_below HB3.out _)); have HL := Lib.hid (lit_nums w3 [-1, n, n + 1, od] (by simp))))
    go_ret
    exact ⟨_, rfl, HC5.out, HG5.out⟩

end Go.Proofs.YtkppbmfliejnmaaDoor

/- Walk: the program's parts of a set. -/
namespace Go.Proofs.YtkppbmfliejnmaaDoor
open Go.RowKit

theorem ty_vsets : SlTy Tryd.prog 72 70 (.int .u32 0) 1 4 := ⟨Tryd.underlying72, by kernel_rfl, rfl, by decide, by decide⟩

theorem Tab.grownP {w w' : World} {r : Option Nat} (h : Tab w) (hg : w.grownBy w' r) (hr : some 0 ≠ r) : Tab w' := fun j hj => hg.cell (a := ⟨_, j, none⟩) (h j hj) hr

/-- Lists, as masks. -/
def mskL (ps : List (List Nat)) : List Nat := ps.map fun l => mask (natInts l)
theorem mskL_snoc (ps : List (List Nat)) (l : List Nat) : mskL (ps ++ [l]) = mskL ps ++ [mask (natInts l)] := by simp [mskL]
theorem mskL_length (ps : List (List Nat)) : (mskL ps).length = ps.length := by simp [mskL]

structure PtI (w wr : World) (x ov : Value) (n : Nat) (E : Nat → Nat → Bool) (W s : Nat) (os : List (List Nat)) : Prop where
  s16 : s < 65536
  sub : ∀ i, s.testBit i = true → i < n
  net : NE wr x n E
  own : wr.ownsRow w.heap.size 70 1 ov os.length ((mskL os).map u32v)
  bel : Below w.heap.size w wr
  on : PartOn E (bitsOf W) os (bitsOf s)
  cnt : os.length + (bitsOf s).length ≤ 32
  lt : ∀ l ∈ os, l.Pairwise (· < ·) ∧ ∀ i ∈ l, i < n
  tab : Tab wr
  tpos : 0 < w.heap.size

set_option maxRecDepth 100000 in
set_option maxHeartbeats 4000000 in
theorem partsOf_any (x : Value) (y : Int) (n : Nat) (E : Nat → Nat → Bool) (W : Nat) (hy : y = W) (hW : W < 65536) (hWn : ∀ i, W.testBit i = true → i < n) (w : World) (hx : NE w x n E) (hT : Tab w) :
    Calls Tryd.prog 212 #[x, .int .u32 y] w fun e w' => ∃ (ov : Value) (ps : List (List Nat)), e = .returned ov ∧ Parts E (bitsOf W) ps ∧
      w'.ownsRow w.heap.size 70 1 ov ps.length ((mskL ps).map u32v) ∧ ps.length ≤ 32 ∧ (∀ l ∈ ps, l.Pairwise (· < ·) ∧ ∀ i ∈ l, i < n) ∧ Tab w' ∧ Below w.heap.size w w' := by
  subst hy
  have hle := hx.le
  have hbA := below_alloc w (.cells #[] 70)
  have START := Lib.hid (show PtI w (w.alloc (.cells #[] 70)) x (.slice (some ⟨w.heap.size, 0, none⟩) 0 0) n E W W [] from
    { s16 := hW, sub := hWn, net := hx.next hbA, own := ownsRow_empty _ _ _, bel := hbA, on := partOn_start _ _, cnt := by have := bitsOf_length W; simp; omega, lt := by simp, tab := hT.keep hbA, tpos := hT.pos })
  obtain ⟨xp, xc, rfl⟩ : ∃ p c, x = .slice p n c := by obtain ⟨p, c, e, _⟩ := hx.sl; exact ⟨p, c, e⟩
  have HX := Lib.hid hx
  clear hbA hx hT hWn
  go_enter Tryd.func212, Tryd.ntmps212
  go_wp2
  go_loopw [1, 5] (fun s1 s5 wr => ∃ (s : Nat) (os : List (List Nat)), s1 = .int .u32 (s : Int) ∧ PtI w wr (.slice xp n xc) s5 n E W s os) (fun s1 _ _ => (bitsOf (intOf s1).toNat).length)
  case atStart => exact ⟨W, [], rfl, START.out⟩
  case round =>
    clear START
    obtain ⟨s, os, rfl, hI⟩ := hrel
    obtain ⟨op, oc, rfl⟩ : ∃ p c, u5 = .slice p os.length c := by
      rcases hI.own.2 with ⟨h1, h2⟩ | ⟨g1, cap, cur, h1, _⟩
      · exact ⟨none, 0, by rw [h1, h2]⟩
      · exact ⟨_, _, h1⟩
    have HI := Lib.hid hI
    have hs16 := hI.s16
    have hcnt := hI.cnt
    clear hI
    by_cases h0 : s = 0
    · have h0' : ((s : Int) != 0) = false := by simp [h0]
      have H0 := Lib.hid h0
      clear h0
      go_wp2
      go_ret
      have hon := HI.out.on
      rw [H0.out, bitsOf_zero] at hon
      exact ⟨_, os, rfl, partOn_stop hon, HI.out.own, by omega, HI.out.lt, HI.out.tab, HI.out.bel⟩
    · have h0' : ((s : Int) != 0) = true := by simp; omega
      have hst := bitsOf_step s h0 (by omega)
      obtain ⟨hub, hu32, _⟩ := testBit_ctz s h0 (by omega)
      have H0 := Lib.hid h0
      obtain ⟨u, hu⟩ : ∃ u, u = Lib.ctz 32 s := ⟨_, rfl⟩
      rw [← hu] at hst hub hu32
      have HU := Lib.hid hu
      have HST := Lib.hid hst
      have HUB := Lib.hid hub
      have hos : os.length < 1000000000 := by omega
      have hown := HI.out.own
      have htab := HI.out.tab
      clear h0 hu hst hub
      go_wp2_with (first
        | (at_builtin; refine wpList_app1 ty_vsets rfl rfl rfl ho4 rfl rfl hos (by have := HI.out.bel.size; have := hb4.size; omega) ?_; intro v' w5 hown' hg _)
        | (go_at_call 219; refine (reach_any _ _ _ n E u s rfl rfl hs16 HI.out.sub HUB.out _ HI.out.net htab).mono ?_; rintro e w4 ⟨m, rfl, hm16, hmb, hb4⟩; have ho4 := ownsRow_below hown hb4; have HM := Lib.hid hmb; have hmi : ((m : Nat) : Int) < 4294967296 := (by omega))
        | (go_at_call 185; refine (least_any _ s rfl H0.out (by omega) _ htab).mono ?_; rintro e w3 ⟨he3, rfl⟩; rw [← HU.out] at he3; subst he3))
      have hand : bits BinOp.andNot IntKind.u32 (s : Int) (m : Int) = ((sub s m : Nat) : Int) := u32_andNot_nat s m (by omega) (by omega)
      have hM' : m = mask (natInts (partL E (bitsOf s) u)) := Nat.eq_of_testBit_eq fun i => by
        rw [Bool.eq_iff_iff, mask_bit, decide_eq_true_eq]
        exact HM.out i
      have hrest : bitsOf (sub s m) = restL E (bitsOf s) u := by
        refine rising_ext _ _ (bitsOf_rising _) (restL_rising (bitsOf_rising _) u) fun i => ?_
        rw [mem_left (sub_lt16 _ _ hs16), testBit_sub s m (by omega) (by omega), mem_restL, mem_left hs16, Bool.and_eq_true, Bool.not_eq_true', Bool.eq_false_iff]
        constructor
        · rintro ⟨h1, h2⟩
          exact ⟨h1, fun hr => h2 ((HM.out i).2 (mem_partL.2 ⟨(mem_left hs16).2 h1, hr⟩))⟩
        · rintro ⟨h1, h2⟩
          exact ⟨h1, fun hm => h2 (mem_partL.1 ((HM.out i).1 hm)).2⟩
      have hlt := restL_lt (E := E) (L := bitsOf s) (u := u) ((mem_left hs16).2 HUB.out)
      have hon := HI.out.on
      rw [HST.out] at hon
      have hon2 := partOn_step hon
      rw [← HST.out, ← hrest] at hon2
      rw [← hrest] at hlt
      have hb5 := below_grown (HI.out.bel.trans (hb4.mono HI.out.bel.size)) ho4 hg (Nat.le_refl _) (by have := HI.out.bel.size; have := hb4.size; omega)
      go_roundw
      case rel =>
        refine ⟨sub s m, os ++ [partL E (bitsOf s) u], val_int hand, ?_⟩
        exact { s16 := sub_lt16 _ _ hs16
                sub := fun i hi => HI.out.sub i (by rw [testBit_sub s m (by omega) (by omega)] at hi; simp only [Bool.and_eq_true] at hi; exact hi.1)
                net := HX.out.next hb5
                own := by rw [mskL_snoc, ← hM', List.map_append, List.length_append]; exact hown'
                bel := hb5
                on := hon2
                cnt := by rw [List.length_append]; simp; omega
                lt := fun l hl => by
                  rcases List.mem_append.1 hl with h | h
                  · exact HI.out.lt l h
                  · simp only [List.mem_singleton] at h
                    subst h
                    exact ⟨partL_rising (bitsOf_rising _) u, fun i hi => HI.out.sub i ((mem_left hs16).1 (mem_partL.1 hi).1)⟩
                tab := (htab.keep hb4).grownP hg (fun e => by
                  have := (ho4.lt _ e.symm).1
                  have := HI.out.tpos
                  omega)
                tpos := HI.out.tpos }
      case measure =>
        rw [hand]
        simp [intOf]
        omega

end Go.Proofs.YtkppbmfliejnmaaDoor
