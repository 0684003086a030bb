/- Walk: the program's parts of a set. -/
import Derived.Test.YtfphapcgjlhieaaDoorGtQ25
import Derived.Test.YtfphapcgjlhieaaDoorGtQ13
import Derived.Test.YtfphapcgjlhieaaDoorGtQ6
import Derived.Test.YtfphapcgjlhieaaDoorGtQ8
import Derived.Deep.DeepCutAuto
namespace Go.Proofs.YtfphapcgjlhieaaDoor
open Go.RowKit

theorem ty_vsets : SlTy Tryd.prog 71 76 (.int .u32 0) 1 4 := ⟨Tryd.underlying71, by kernel_rfl, rfl, by decide, by decide⟩

theorem Tab.grownP {w w' : World} {r : Option Nat} (h : Tab w) (hg : w.grownBy w' r) (hr : some 0 ≠ r) : Tab w' := fun j hj => hg.cell (a := ⟨_, j, none⟩) (h j hj) hr

/-- Lists, as masks. -/
def mskL (ps : List (List Nat)) : List Nat := ps.map fun l => mask (natInts l)
theorem mskL_snoc (ps : List (List Nat)) (l : List Nat) : mskL (ps ++ [l]) = mskL ps ++ [mask (natInts l)] := by simp [mskL]
theorem mskL_length (ps : List (List Nat)) : (mskL ps).length = ps.length := by simp [mskL]

structure PtI (w wr : World) (x ov : Value) (n : Nat) (E : Nat → Nat → Bool) (W s : Nat) (os : List (List Nat)) : Prop where
  s16 : s < 65536
  sub : ∀ i, s.testBit i = true → i < n
  net : NE wr x n E
  own : wr.ownsRow w.heap.size 76 1 ov os.length ((mskL os).map u32v)
  bel : Below w.heap.size w wr
  on : PartOn E (bitsOf W) os (bitsOf s)
  cnt : os.length + (bitsOf s).length ≤ 32
  lt : ∀ l ∈ os, l.Pairwise (· < ·) ∧ ∀ i ∈ l, i < n
  tab : Tab wr
  tpos : 0 < w.heap.size

set_option maxRecDepth 100000 in
set_option maxHeartbeats 4000000 in
theorem partsOf_any (x : Value) (y : Int) (n : Nat) (E : Nat → Nat → Bool) (W : Nat) (hy : y = W) (hW : W < 65536) (hWn : ∀ i, W.testBit i = true → i < n) (w : World) (hx : NE w x n E) (hT : Tab w) :
    Calls Tryd.prog 129 #[x, .int .u32 y] w fun e w' => ∃ (ov : Value) (ps : List (List Nat)), e = .returned ov ∧ Parts E (bitsOf W) ps ∧
      w'.ownsRow w.heap.size 76 1 ov ps.length ((mskL ps).map u32v) ∧ ps.length ≤ 32 ∧ (∀ l ∈ ps, l.Pairwise (· < ·) ∧ ∀ i ∈ l, i < n) ∧ Tab w' ∧ Below w.heap.size w w' := by
  subst hy
  have hle := hx.le
  have hbA := below_alloc w (.cells #[] 76)
  have START := Lib.hid (show PtI w (w.alloc (.cells #[] 76)) x (.slice (some ⟨w.heap.size, 0, none⟩) 0 0) n E W W [] from
    { s16 := hW, sub := hWn, net := hx.next hbA, own := ownsRow_empty _ _ _, bel := hbA, on := partOn_start _ _, cnt := by have := bitsOf_length W; simp; omega, lt := by simp, tab := hT.keep hbA, tpos := hT.pos })
  obtain ⟨xp, xc, rfl⟩ : ∃ p c, x = .slice p n c := by obtain ⟨p, c, e, _⟩ := hx.sl; exact ⟨p, c, e⟩
  have HX := Lib.hid hx
  clear hbA hx hT hWn
  go_enter Tryd.func129, Tryd.ntmps129
  go_wp2
  go_loopw [1, 5] (fun s1 s5 wr => ∃ (s : Nat) (os : List (List Nat)), s1 = .int .u32 (s : Int) ∧ PtI w wr (.slice xp n xc) s5 n E W s os) (fun s1 _ _ => (bitsOf (intOf s1).toNat).length)
  case atStart => exact ⟨W, [], rfl, START.out⟩
  case round =>
    clear START
    obtain ⟨s, os, rfl, hI⟩ := hrel
    obtain ⟨op, oc, rfl⟩ : ∃ p c, u5 = .slice p os.length c := by
      rcases hI.own.2 with ⟨h1, h2⟩ | ⟨g1, cap, cur, h1, _⟩
      · exact ⟨none, 0, by rw [h1, h2]⟩
      · exact ⟨_, _, h1⟩
    have HI := Lib.hid hI
    have hs16 := hI.s16
    have hcnt := hI.cnt
    clear hI
    by_cases h0 : s = 0
    · have h0' : ((s : Int) != 0) = false := by simp [h0]
      have H0 := Lib.hid h0
      clear h0
      go_wp2
      go_ret
      have hon := HI.out.on
      rw [H0.out, bitsOf_zero] at hon
      exact ⟨_, os, rfl, partOn_stop hon, HI.out.own, by omega, HI.out.lt, HI.out.tab, HI.out.bel⟩
    · have h0' : ((s : Int) != 0) = true := by simp; omega
      have hst := bitsOf_step s h0 (by omega)
      obtain ⟨hub, hu32, _⟩ := testBit_ctz s h0 (by omega)
      have H0 := Lib.hid h0
      obtain ⟨u, hu⟩ : ∃ u, u = Lib.ctz 32 s := ⟨_, rfl⟩
      rw [← hu] at hst hub hu32
      have HU := Lib.hid hu
      have HST := Lib.hid hst
      have HUB := Lib.hid hub
      have hos : os.length < 1000000000 := by omega
      have hown := HI.out.own
      have htab := HI.out.tab
      clear h0 hu hst hub
      go_wp2_with (first
        | (at_builtin; refine wpList_app1 ty_vsets rfl rfl rfl ho4 rfl rfl hos (by have := HI.out.bel.size; have := hb4.size; omega) ?_; intro v' w5 hown' hg _)
        | (go_at_call 154; refine (reach_any _ _ _ n E u s rfl rfl hs16 HI.out.sub HUB.out _ HI.out.net htab).mono ?_; rintro e w4 ⟨m, rfl, hm16, hmb, hb4⟩; have ho4 := ownsRow_below hown hb4; have HM := Lib.hid hmb; have hmi : ((m : Nat) : Int) < 4294967296 := (by omega))
        | (go_at_call 65; refine (least_any _ s rfl H0.out (by omega) _ htab).mono ?_; rintro e w3 ⟨he3, rfl⟩; rw [← HU.out] at he3; subst he3))
      have hand : bits BinOp.andNot IntKind.u32 (s : Int) (m : Int) = ((sub s m : Nat) : Int) := u32_andNot_nat s m (by omega) (by omega)
      have hM' : m = mask (natInts (partL E (bitsOf s) u)) := Nat.eq_of_testBit_eq fun i => by
        rw [Bool.eq_iff_iff, mask_bit, decide_eq_true_eq]
        exact HM.out i
      have hrest : bitsOf (sub s m) = restL E (bitsOf s) u := by
        refine rising_ext _ _ (bitsOf_rising _) (restL_rising (bitsOf_rising _) u) fun i => ?_
        rw [mem_left (sub_lt16 _ _ hs16), testBit_sub s m (by omega) (by omega), mem_restL, mem_left hs16, Bool.and_eq_true, Bool.not_eq_true', Bool.eq_false_iff]
        constructor
        · rintro ⟨h1, h2⟩
          exact ⟨h1, fun hr => h2 ((HM.out i).2 (mem_partL.2 ⟨(mem_left hs16).2 h1, hr⟩))⟩
        · rintro ⟨h1, h2⟩
          exact ⟨h1, fun hm => h2 (mem_partL.1 ((HM.out i).1 hm)).2⟩
      have hlt := restL_lt (E := E) (L := bitsOf s) (u := u) ((mem_left hs16).2 HUB.out)
      have hon := HI.out.on
      rw [HST.out] at hon
      have hon2 := partOn_step hon
      rw [← HST.out, ← hrest] at hon2
      rw [← hrest] at hlt
      have hb5 := below_grown (HI.out.bel.trans (hb4.mono HI.out.bel.size)) ho4 hg (Nat.le_refl _) (by have := HI.out.bel.size; have := hb4.size; omega)
      go_roundw
      case rel =>
        refine ⟨sub s m, os ++ [partL E (bitsOf s) u], val_int hand, ?_⟩
        exact { s16 := sub_lt16 _ _ hs16
                sub := fun i hi => HI.out.sub i (by rw [testBit_sub s m (by omega) (by omega)] at hi; simp only [Bool.and_eq_true] at hi; exact hi.1)
                net := HX.out.next hb5
                own := by rw [mskL_snoc, ← hM', List.map_append, List.length_append]; exact hown'
                bel := hb5
                on := hon2
                cnt := by rw [List.length_append]; simp; omega
                lt := fun l hl => by
                  rcases List.mem_append.1 hl with h | h
                  · exact HI.out.lt l h
                  · simp only [List.mem_singleton] at h
                    subst h
                    exact ⟨partL_rising (bitsOf_rising _) u, fun i hi => HI.out.sub i ((mem_left hs16).1 (mem_partL.1 hi).1)⟩
                tab := (htab.keep hb4).grownP hg (fun e => by
                  have := (ho4.lt _ e.symm).1
                  have := HI.out.tpos
                  omega)
                tpos := HI.out.tpos }
      case measure =>
        rw [hand]
        simp [intOf]
        omega

end Go.Proofs.YtfphapcgjlhieaaDoor

/- Walk: masks as rows of numbers. -/
namespace Go.Proofs.YtfphapcgjlhieaaDoor
open Go.RowKit

theorem ty_rows64 : SlTy Tryd.prog 24 52 (.slice none 0 0) 1 24 := ⟨Tryd.underlying24, by kernel_rfl, rfl, by decide, by decide⟩

end Go.Proofs.YtfphapcgjlhieaaDoor

/- Walks: SameGraph, of both. -/
namespace Go.Proofs.YtfphapcgjlhieaaDoor
open Go.RowKit

set_option maxRecDepth 100000 in
set_option maxHeartbeats 1000000 in
theorem l1Same_any (u v : Value) (xs ys : List Int) (w : World) (hx : Nums w 2 .i64 u xs) (hy : Nums w 2 .i64 v ys) :
    Calls Tryd.prog 135 #[u, v] w fun e w' => e = .returned (.bool (dec (xs = ys))) ∧ ∃ q, w' = w.drewN q := by
  obtain ⟨p, c, rfl, hp, _, hn, hat⟩ := hx
  obtain ⟨p', c', rfl, hp', _, hn', hat'⟩ := hy
  by_cases hl : xs.length = ys.length
  case neg =>
    have hl' : ((xs.length : Int) != (ys.length : Int)) = true := by simp; omega
    go_enter Tryd.func135, Tryd.ntmps135
    go_wp2
    go_ret
    exact ⟨ret_bool (false_dec fun h => hl (by rw [h])), 0, rfl⟩
  have Hl := Lib.hid hl
  have hl' : ((xs.length : Int) != (ys.length : Int)) = false := by simp; omega
  clear hl
  go_enter Tryd.func135, Tryd.ntmps135
  go_wp2
  go_loopw [5] (fun i wr => ∃ k : Nat, k ≤ xs.length ∧ i = .int .i64 k ∧ xs.take k = ys.take k ∧ ∃ q, wr = w.drewN q) (fun i _ => xs.length - (intOf i).toNat)
  case atStart => exact ⟨0, Nat.zero_le _, rfl, by simp, 0, rfl⟩
  case round =>
    obtain ⟨k, hk, rfl, heq, q, rfl⟩ := hrel
    have Heq := Lib.hid heq
    clear heq
    by_cases hlt : k < xs.length
    · have hlt' : k < ys.length := by have := Hl.out; omega
      obtain ⟨b, o, rfl, hcell⟩ := hat.num hlt
      obtain ⟨b', o', rfl, hcell'⟩ := hat'.num hlt'
      clear hat hat'
      have e0 : (0 : Int) ≤ (k : Int) := by omega
      have e1 : (k : Int) < (xs.length : Int) := by omega
      have e2 : (k : Int) < (ys.length : Int) := by omega
      by_cases he : xs[k] = ys[k]
      · have he' : (xs[k] != ys[k]) = false := by simpa using he
        have He := Lib.hid he
        clear he
        go_wp2
        go_quiet (fail)
        go_wp2
        go_roundw
        case rel => exact ⟨k + 1, by omega, by go_num, by rw [take_snoc xs k hlt, take_snoc ys k hlt', Heq.out, He.out], _, rfl⟩
        case measure => simp [intOf]; omega
      · have he' : (xs[k] != ys[k]) = true := by simpa using he
        have He := Lib.hid he
        clear he
        go_wp2
        go_quiet (fail)
        go_wp2
        go_ret
        exact ⟨ret_bool (false_dec fun h => He.out (by subst h; rfl)), _, World.drewN_drewN _ _ _⟩
    · obtain rfl : k = xs.length := by omega
      go_wp2
      go_ret
      refine ⟨ret_bool (true_dec ?_), q, rfl⟩
      have h := Heq.out
      rwa [List.take_length, Hl.out, List.take_length] at h

set_option maxRecDepth 100000 in
set_option maxHeartbeats 1000000 in
theorem l1SameGraph_any (u v : Value) (g h : List (List Int)) (w : World) (hx : Gr w u g) (hy : Gr w v h) :
    Calls Tryd.prog 84 #[u, v] w fun e w' => e = .returned (.bool (dec (g = h))) ∧ Below w.heap.size w w' := by
  obtain ⟨u, rfl, hx0⟩ := hx
  obtain ⟨v, rfl, hy0⟩ := hy
  obtain ⟨p, c, rfl, hp, _, hn⟩ := hx0.shape
  obtain ⟨p', c', rfl, hp', _, hn'⟩ := hy0.shape
  obtain ⟨W, hW⟩ : ∃ W, W = (w.alloc (.cells #[.slice p g.length c] 26)).alloc (.cells #[.slice p' h.length c'] 26) := ⟨_, rfl⟩
  have hb0 : Below w.heap.size w W := by rw [hW]; exact below_alloc2 _ _ _
  have BA : Box W w.heap.size 26 (.slice p g.length c) := by rw [hW]; exact (Box.new _ _ _).alloc _
  have BB : Box W (w.heap.size + 1) 26 (.slice p' h.length c') := by
    have := Box.new (w.alloc (.cells #[.slice p g.length c] 26)) (.slice p' h.length c') 26
    rw [size_alloc] at this
    rw [hW]; exact this
  have hx := hx0.below hb0
  have hy := hy0.below hb0
  have HB0 := Lib.hid hb0
  have HBA := Lib.hid BA
  have HBB := Lib.hid BB
  have HW := Lib.hid hW
  clear hx0 hy0 hb0 BA BB hW
  obtain ⟨qa, _⟩ := id HBA.out
  obtain ⟨qb, _⟩ := id HBB.out
  by_cases hl : g.length = h.length
  case neg =>
    have hl' : ((g.length : Int) != (h.length : Int)) = true := by simp; omega
    go_enter Tryd.func84, Tryd.ntmps84
    go_upto_region 1 with fail
    rw [← HW.out]
    go_wp2
    go_ret
    exact ⟨ret_bool (false_dec fun e => hl (by rw [e])), HB0.out⟩
  have Hl := Lib.hid hl
  have hl' : ((g.length : Int) != (h.length : Int)) = false := by simp; omega
  clear hl
  go_enter Tryd.func84, Tryd.ntmps84
  go_upto_region 1 with fail
  rw [← HW.out]
  go_wp2
  go_loopw [5] (fun i wr => ∃ k : Nat, k ≤ g.length ∧ i = .int .i64 k ∧ g.take k = h.take k ∧ Below W.heap.size W wr) (fun i _ => g.length - (intOf i).toNat)
  case atStart => exact ⟨0, Nat.zero_le _, rfl, by simp, Below.refl _ _⟩
  case round =>
    clear qa qb
    obtain ⟨k, hk, rfl, heq, hbel⟩ := hrel
    have Heq := Lib.hid heq
    clear heq
    have qa := (HBA.out.keep hbel).cell
    have qb := (HBB.out.keep hbel).cell
    by_cases hlt : k < g.length
    · have hlt' : k < h.length := by have := Hl.out; omega
      obtain ⟨b, o, rp, rc, rfl, hcell, hnums⟩ := (hx.below hbel).get hlt
      obtain ⟨b', o', rp', rc', rfl, hcell', hnums'⟩ := (hy.below hbel).get hlt'
      clear hx hy
      have e0 : (0 : Int) ≤ (k : Int) := by omega
      have e1 : (k : Int) < (g.length : Int) := by omega
      have e2 : (k : Int) < (h.length : Int) := by omega
      have g1 : g.getD k [] = g[k] := by simp [hlt]
      have g2 : h.getD k [] = h[k] := by simp [hlt']
      rw [g1] at hcell hnums
      rw [g2] at hcell' hnums'
      clear g1 g2
      by_cases he : g[k] = h[k]
      · have he' := dec_true he
        have He := Lib.hid he
        clear he
        go_wp2
        go_quiet ((go_at_call 135; exact Calls.quiet_of (l1Same_any _ _ _ _ _ (hnums.below (below_dN (Below.refl _ _) _)) (hnums'.below (below_dN (Below.refl _ _) _)))))
        go_wp2
        go_roundw
        case rel => exact ⟨k + 1, by omega, by go_num, by rw [take_snoc g k hlt, take_snoc h k hlt', Heq.out, He.out], below_dN hbel _⟩
        case measure => simp [intOf]; omega
      · have he' := dec_false he
        have He := Lib.hid he
        clear he
        go_wp2
        go_quiet ((go_at_call 135; exact Calls.quiet_of (l1Same_any _ _ _ _ _ (hnums.below (below_dN (Below.refl _ _) _)) (hnums'.below (below_dN (Below.refl _ _) _)))))
        go_wp2
        go_ret
        exact ⟨ret_bool (false_dec fun e => He.out (by subst e; rfl)), below_dN (HB0.out.trans (hbel.mono HB0.out.size)) _⟩
    · obtain rfl : k = g.length := by omega
      go_wp2
      go_ret
      refine ⟨ret_bool (true_dec ?_), HB0.out.trans (hbel.mono HB0.out.size)⟩
      have e := Heq.out
      rwa [List.take_length, Hl.out, List.take_length] at e

set_option maxRecDepth 100000 in
set_option maxHeartbeats 1000000 in
theorem specSameGraph_any (u v : Value) (g h : List (List Int)) (w : World) (hx : Gr w u g) (hy : Gr w v h) :
    Calls Tryd.prog 29 #[u, v] w fun e w' => e = .returned (.bool (dec (GOk g ∧ GOk h ∧ g = h))) ∧ Below w.heap.size w w' := by
  obtain ⟨u, rfl, hx0⟩ := id hx
  obtain ⟨v, rfl, hy0⟩ := id hy
  obtain ⟨p, c, rfl, hp, _, hn⟩ := hx0.shape
  obtain ⟨p', c', rfl, hp', _, hn'⟩ := hy0.shape
  have hb0 := Lib.hid (below_alloc2 w (.cells #[.slice p g.length c] 26) (.cells #[.slice p' h.length c'] 26))
  have BA := Lib.hid ((Box.new w (.slice p g.length c) 26).alloc (.cells #[.slice p' h.length c'] 26))
  have BB : Hid (Box ((w.alloc (.cells #[.slice p g.length c] 26)).alloc (.cells #[.slice p' h.length c'] 26)) (w.heap.size + 1) 26 (.slice p' h.length c')) := by
    have := Box.new (w.alloc (.cells #[.slice p g.length c] 26)) (.slice p' h.length c') 26
    rw [size_alloc] at this
    exact Lib.hid this
  have HX := Lib.hid (hx.below hb0.out)
  have HY := Lib.hid (hy.below hb0.out)
  have s0 := hb0.out.size
  clear hx hy hx0 hy0
  by_cases h1 : GOk g
  case neg =>
    have hd := dec_false h1
    have H1 := Lib.hid h1
    clear h1
    go_enter Tryd.func29, Tryd.ntmps29
    go_wp2_with (go_at_call 79; refine (specGraphOk_any _ g _ HX.out).mono ?_; rintro e w2 ⟨he, hb2⟩; rw [hd] at he; subst he)
    go_ret
    exact ⟨ret_bool (false_dec fun e => H1.out e.1), hb0.out.trans (hb2.mono s0)⟩
  have hd := dec_true h1
  have H1 := Lib.hid h1
  clear h1
  by_cases h2 : GOk h
  case neg =>
    have hd2 := dec_false h2
    have H2 := Lib.hid h2
    clear h2
    go_enter Tryd.func29, Tryd.ntmps29
    go_wp2_with (first
      | (go_at_call 79; refine (specGraphOk_any _ h _ (HY.out.below hb2)).mono ?_; rintro e w3 ⟨he, hb3⟩; rw [hd2] at he; subst he)
      | (go_at_call 79; refine (specGraphOk_any _ g _ HX.out).mono ?_; rintro e w2 ⟨he, hb2⟩; rw [hd] at he; subst he; have qb := (BB.out.keep hb2).cell))
    go_ret
    exact ⟨ret_bool (false_dec fun e => H2.out e.2.1), (hb0.out.trans (hb2.mono s0)).trans (hb3.mono (Nat.le_trans s0 hb2.size))⟩
  have hd2 := dec_true h2
  have H2 := Lib.hid h2
  clear h2
  go_enter Tryd.func29, Tryd.ntmps29
  go_wp2_with (first
    | (go_at_call 84; refine (l1SameGraph_any _ _ g h _ ((HX.out.below hb2).below hb3) ((HY.out.below hb2).below hb3)).mono ?_; rintro e w4 ⟨rfl, hb4⟩)
    | (go_at_call 79; refine (specGraphOk_any _ h _ (HY.out.below hb2)).mono ?_; rintro e w3 ⟨he, hb3⟩; rw [hd2] at he; subst he; have qa3 := ((BA.out.keep hb2).keep hb3).cell; have qb3 := ((BB.out.keep hb2).keep hb3).cell)
    | (go_at_call 79; refine (specGraphOk_any _ g _ HX.out).mono ?_; rintro e w2 ⟨he, hb2⟩; rw [hd] at he; subst he; have qb := (BB.out.keep hb2).cell))
  go_ret
  exact ⟨ret_bool (dec_congr ⟨fun e => ⟨H1.out, H2.out, e⟩, fun e => e.2.2⟩), ((hb0.out.trans (hb2.mono s0)).trans (hb3.mono (Nat.le_trans s0 hb2.size))).trans (hb4.mono (Nat.le_trans (Nat.le_trans s0 hb2.size) hb3.size))⟩

end Go.Proofs.YtfphapcgjlhieaaDoor
