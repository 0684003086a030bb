/- Walk: the program folds. -/
import Derived.Test.YtkppbmfliejnmaaDoorMcQ8
import Derived.Test.YtkppbmfliejnmaaDoorMcQ6
import Derived.Test.YtkppbmfliejnmaaDoorMcQ3
import Derived.Test.YtkppbmfliejnmaaDoorMcQ5
import Derived.Test.YtkppbmfliejnmaaDoorMcQ23
import Derived.Test.YtkppbmfliejnmaaDoorMcQ15
import Derived.Test.YtkppbmfliejnmaaDoorMcQ17
import Derived.Test.YtkppbmfliejnmaaDoorMcQ11
import Derived.Test.YtkppbmfliejnmaaDoorMcQ12
import Derived.Deep.RegionHeld3
import Derived.Deep.DeepCutAuto
namespace Go.Proofs.YtkppbmfliejnmaaDoor
open Go.RowKit

/-- Sets of neighbours that the walk can go on with. -/
structure NOk (a : List Nat) (left : Nat) : Prop where
  le : a.length ≤ 16
  lt : ∀ s ∈ a, s < 65536
  left16 : left < 65536
  inn : ∀ v, left.testBit v = true → v < a.length

theorem near_in {a : List Nat} {left v : Nat} (h : NOk a left) : ∀ x ∈ nearL a left v, ∃ i : Nat, x = (i : Int) ∧ i < a.length := by
  intro x hx
  obtain ⟨i, rfl, _, h2⟩ := (mem_near h.left16).1 hx
  exact ⟨i, rfl, h.inn i h2⟩

theorem NOk.pair {a : List Nat} {left v : Nat} (h : NOk a left) (h2 : (nearL a left v).length ≤ 2) {f : Fd} (hf : f = atRow v (nearL a left v)) (hB : 0 ≤ f.B) :
    ∃ p q : Nat, f.A = p ∧ f.B = q ∧ p < a.length ∧ q < a.length ∧ p ≠ q := by
  obtain ⟨_, hAB⟩ := atRow_cases (v : Int) (near_rising a left v) h2 (fun x hx => by obtain ⟨i, rfl, _⟩ := near_in h x hx; omega)
  rw [← hf] at hAB
  rcases hAB with ⟨k, _⟩ | ⟨hA, hB', h3, h4, h5⟩
  · omega
  · obtain ⟨p, hp, hpl⟩ := near_in h _ hA
    obtain ⟨q, hq, hql⟩ := near_in h _ hB'
    exact ⟨p, q, hp, hq, hpl, hql, by omega⟩

theorem NOk.away {a : List Nat} {left v : Nat} (h : NOk a left) (hv : left.testBit v = true) (h2 : (nearL a left v).length ≤ 2) {f : Fd} (hf : f = atRow v (nearL a left v)) : NOk (awayL a f) (sub left (2 ^ v)) := by
  have hle := h.le
  have hvl := h.inn v hv
  refine ⟨by rw [awayL_length]; exact hle, ?_, sub_lt16 _ _ h.left16, fun u hu => ?_⟩
  · by_cases hB : 0 ≤ f.B
    · obtain ⟨p, q, hp, hq, hpl, hql, _⟩ := h.pair h2 hf hB
      have e : awayL a f = joinL a p q := by
        show (if _ then _ else _) = _
        rw [if_pos hB, hp, hq, Int.toNat_natCast, Int.toNat_natCast]
      rw [e]
      exact joinL_lt16 h.lt (by omega) (by omega)
    · have e : awayL a f = a := if_neg hB
      rw [e]; exact h.lt
  · rw [awayL_length]
    exact h.inn u ((testBit_sub1 h.left16 (by omega) u).1 hu).1

theorem bits_sub_lt {left v : Nat} (h : left < 65536) (hv : left.testBit v = true) (h16 : v < 16) : (bitsOf (sub left (2 ^ v))).length < (bitsOf left).length := by
  have h1 := list_sub h h16
  have h2 : ((v : Nat) : Int) ∈ natInts (bitsOf left) := mem_natInts.2 ⟨v, (mem_left h).2 hv, rfl⟩
  have h3 := lessL_length_lt h2
  rw [h1, natInts_length, natInts_length] at h3
  exact h3

theorem grown_own {w w' w'' : World} {E : TypeId} {size n : Nat} {v : Value} {xs : List Value} {r : Option Nat} (h : w.grownBy w' r) (ho : w'.ownsRow w.heap.size E size v n xs) (hg : w'.grownBy w'' v.ownBlock) : w.grownBy w'' r :=
  ⟨hg.os.trans h.os, hg.tape.trans h.tape, hg.output.trans h.output, Nat.le_trans h.size hg.size, fun k hk hne => (hg.block k (Nat.lt_of_lt_of_le hk h.size) (fun e => by have := (ho.lt k e.symm).1; omega)).trans (h.block k hk hne)⟩

theorem Tab.grown {w w' : World} {r : Option Nat} (h : Tab w) (hg : w.grownBy w' r) (hr : some 0 ≠ r) : Tab w' := fun j hj => hg.cell (a := ⟨_, j, none⟩) (h j hj) hr

theorem Sl.shape {w : World} {E : TypeId} {v : Value} {n : Nat} {vals : List Value} (h : Sl w E v n vals) : ∃ p c, v = .slice p n c := by
  obtain ⟨p, c, e, _⟩ := h
  exact ⟨p, c, e⟩

end Go.Proofs.YtkppbmfliejnmaaDoor

/- Walks: the program's isSeries, SeriesIn, FoldedOf, TwoOrder. -/
namespace Go.Proofs.YtkppbmfliejnmaaDoor
open Go.RowKit

theorem all_any' (p : Option Addr) (n c M : Nat) (hn : n < 32) (hM : M = 2 ^ n - 1) (w : World) :
    Calls Tryd.prog 106 #[.slice p n c] w fun e w' => e = .returned (.int .u32 (M : Int)) ∧ w = w' := by
  subst hM; exact all_any p n c hn w

theorem bits_nil {l : Nat} (h : l < 65536) : (bitsOf l).length = 0 ↔ l = 0 := by
  constructor
  · intro e
    by_cases h0 : l = 0
    · exact h0
    · have := bitsOf_step l h0 (by omega)
      rw [this] at e
      simp at e
  · rintro rfl; rw [bitsOf_zero]; rfl

theorem nOk_start {g : List (List Int)} (h : GOk g) {M : Nat} (hM : M = 2 ^ g.length - 1) : NOk (netL g) M ∧ (bitsOf M).length ≤ 16 ∧ (netL g).length = g.length := by
  subst hM
  have hs := same_start h
  refine ⟨⟨hs.le, hs.lt, hs.left16, hs.inn⟩, ?_, hs.len.symm⟩
  have := natInts_range g.length h.le
  rw [← natInts_length, this, allL_length]
  exact h.le

theorem foldsN_S {g : List (List Int)} (h : GOk g) {M : Nat} (hM : M = 2 ^ g.length - 1) {fs : List Fd} {l : Nat} {a' : List Nat} (hf : FoldsN (netL g) M fs l a') : ∃ g', Folds g (allL g.length) fs (natInts (bitsOf l)) g' := by
  subst hM
  obtain ⟨g', h1, _⟩ := hf.same (same_start h)
  exact ⟨g', h1⟩

end Go.Proofs.YtkppbmfliejnmaaDoor

/- Walks: how many stable sets a set has (recursive), and a graph. -/
namespace Go.Proofs.YtkppbmfliejnmaaDoor
open Go.RowKit

theorem drop_low_sub {s : Nat} (h0 : s ≠ 0) (hs : s < 65536) : sub s (2 ^ Lib.ctz 32 s) = s &&& (s - 1) := by
  obtain ⟨h1, h2, h3⟩ := testBit_ctz s h0 (by omega)
  have h16 : Lib.ctz 32 s < 16 := Decidable.byContradiction fun hn => by
    have h4 : s < 2 ^ Lib.ctz 32 s := Nat.lt_of_lt_of_le hs (Nat.le_trans (by decide : 65536 ≤ 2 ^ 16) (Nat.pow_le_pow_right (by decide) (by omega)))
    rw [Nat.testBit_lt_two_pow h4] at h1
    cases h1
  refine Nat.eq_of_testBit_eq fun j => ?_
  rw [testBit_drop_low s h0 (by omega), testBit_sub _ _ (by omega) (by have := pow_lt16 _ h16; omega), Nat.testBit_two_pow]
theorem bits_sub_filter {s a n : Nat} {F : Nat → Bool} (hs : s < 65536) (ha : a < 65536) (hb : ∀ j, a.testBit j = (decide (j < n) && F j)) (hin : ∀ i, s.testBit i = true → i < n) : bitsOf (sub s a) = (bitsOf s).filter fun u => !F u := by
  unfold bitsOf
  rw [List.filter_filter]
  refine List.filter_congr fun j _ => ?_
  rw [testBit_sub _ _ (by omega) (by omega), hb j]
  cases h : s.testBit j
  · simp
  · have := hin j h
    simp [this]

set_option maxRecDepth 100000 in
set_option maxHeartbeats 4000000 in
theorem countStables_any (hp : Option Addr) (hc n : Nat) (E : Nat → Nat → Bool) :
    ∀ (k s : Nat) (w : World), (bitsOf s).length ≤ k → k ≤ 16 → s < 65536 → (∀ i, s.testBit i = true → i < n) → NE w (.slice hp n hc) n E → Tab w →
      Calls Tryd.prog 105 #[.slice hp n hc, .int .u32 (s : Int)] w fun e w' => e = .returned (.int .i64 ((cntL E (bitsOf s) : Nat) : Int)) ∧ Below w.heap.size w w' := by
  intro k
  induction k with
  | zero =>
    intro s w hk _ hs _ _ _
    have h0 : s = 0 := (bits_nil hs).1 (by omega)
    subst h0
    go_enter Tryd.func105, Tryd.ntmps105
    go_wp2
    go_ret
    refine ⟨?_, Below.refl _ _⟩
    rw [show bitsOf 0 = [] by decide, cntL_nil]
    rfl
  | succ k ih =>
    intro s w hk hk16 hs hin hH hT
    by_cases h0 : s = 0
    · subst h0
      clear ih
      go_enter Tryd.func105, Tryd.ntmps105
      go_wp2
      go_ret
      refine ⟨?_, Below.refl _ _⟩
      rw [show bitsOf 0 = [] by decide, cntL_nil]
      rfl
    have IH := Lib.hid ih
    have HT := Lib.hid hT
    have HH := Lib.hid hH
    obtain ⟨h1, _, _⟩ := testBit_ctz s h0 (by omega)
    have hstep := bitsOf_step s h0 (by omega)
    have hlow := drop_low_sub h0 hs
    obtain ⟨v, hv⟩ : ∃ v, v = Lib.ctz 32 s := ⟨_, rfl⟩
    rw [← hv] at h1 hstep hlow
    have hvn := hin v h1
    have hv16 : v < 16 := by have := hH.le; omega
    obtain ⟨r, hr⟩ : ∃ r, r = sub s (2 ^ v) := ⟨_, rfl⟩
    rw [← hlow, ← hr] at hstep
    have hr16 : r < 65536 := by rw [hr]; exact sub_lt16 _ _ hs
    have hrin : ∀ i, r.testBit i = true → i < n := fun i hi => by
      rw [hr, testBit_sub1 hs hv16] at hi
      exact hin i hi.1
    obtain ⟨xb, xo, a, rfl, hca, ha16, hab⟩ := hH.get hvn
    have hfil := bits_sub_filter (F := E v) hr16 ha16 hab hrin
    obtain ⟨t, ht⟩ : ∃ t, t = sub r a := ⟨_, rfl⟩
    rw [← ht] at hfil
    have ht16 : t < 65536 := by rw [ht]; exact sub_lt16 _ _ hr16
    have htin : ∀ i, t.testBit i = true → i < n := fun i hi => by
      rw [ht, testBit_sub _ _ (by omega) (by omega), Bool.and_eq_true] at hi
      exact hrin i hi.1
    have hrl : (bitsOf r).length ≤ k := by rw [hstep, List.length_cons] at hk; omega
    have htl : (bitsOf t).length ≤ k := by rw [hfil]; exact Nat.le_trans (List.length_filter_le _ _) hrl
    have hcnt : cntL E (bitsOf s) = cntL E (bitsOf r) + cntL E (bitsOf t) := by rw [hstep, cntL_cons, hfil]
    have hb1 := cntL_le E k _ hrl
    have hb2 := cntL_le E k _ htl
    have h2k : 2 ^ k ≤ 65536 := Nat.le_trans (Nat.pow_le_pow_right (by decide) (show k ≤ 16 by omega)) (by decide)
    have PONE : Hid (∀ w, Calls Tryd.prog 156 #[.int .i64 (v : Int)] w fun e w' => e = .returned (.int .u32 ((2 ^ v : Nat) : Int)) ∧ w = w') := Lib.hid (fun w => one_any (v : Int) v rfl (by omega) w)
    obtain ⟨pv, hpv⟩ : ∃ pv, pv = 2 ^ v := ⟨_, rfl⟩
    have hp16 : pv < 65536 := by rw [hpv]; exact pow_lt16 v hv16
    rw [← hpv] at PONE hr
    have hand1 : bits BinOp.andNot IntKind.u32 (s : Int) (pv : Int) = (r : Int) := by rw [hr]; exact u32_andNot_nat s pv (by omega) (by omega)
    have hand2 : bits BinOp.andNot IntKind.u32 (r : Int) (a : Int) = (t : Int) := by rw [ht]; exact u32_andNot_nat r a (by omega) (by omega)
    obtain ⟨x, hx⟩ : ∃ x, x = cntL E (bitsOf r) := ⟨_, rfl⟩
    obtain ⟨y, hy⟩ : ∃ y, y = cntL E (bitsOf t) := ⟨_, rfl⟩
    rw [← hx, ← hy] at hcnt
    rw [← hx] at hb1
    rw [← hy] at hb2
    have hadd : IntKind.i64.wrap ((x : Int) + (y : Int)) = ((x + y : Nat) : Int) := by rw [IntKind.wrap_i64]; omega
    have CR : Hid (∀ wz, Below w.heap.size w wz → Calls Tryd.prog 105 #[.slice (some ⟨xb, xo, none⟩) n hc, .int .u32 (r : Int)] wz fun e w' => e = .returned (.int .i64 (x : Int)) ∧ Below wz.heap.size wz w') := Lib.hid fun wz hz => by rw [hx]; exact ih r wz hrl (by omega) hr16 hrin (HH.out.next hz) (HT.out.keep hz)
    have CT : Hid (∀ wz, Below w.heap.size w wz → Calls Tryd.prog 105 #[.slice (some ⟨xb, xo, none⟩) n hc, .int .u32 (t : Int)] wz fun e w' => e = .returned (.int .i64 (y : Int)) ∧ Below wz.heap.size wz w') := Lib.hid fun wz hz => by rw [hy]; exact ih t wz htl (by omega) ht16 htin (HH.out.next hz) (HT.out.keep hz)
    have HCNT := Lib.hid hcnt
    have HV := Lib.hid hv
    have H0 := Lib.hid h0
    have hs0 : ((s : Int) == 0) = false := beq_eq_false_iff_ne.2 (by omega)
    clear ih hT hH h1 hstep hlow hv hr hrin hab hfil ht htin hrl htl hcnt hpv hx hy h0 IH
    go_enter Tryd.func105, Tryd.ntmps105
    go_upto_region 5 with (first
      | (go_at_call 156; refine (PONE.out _).mono ?_; rintro e w3 ⟨rfl, rfl⟩)
      | (go_at_call 185; refine (least_any _ s rfl H0.out (by omega) _ HT.out).mono ?_; rintro e w2 ⟨he, rfl⟩; rw [← HV.out] at he; subst he))
    go_region_held3 (fun w' => w'.cell? ⟨xb, xo + v, none⟩ = some (.int .u32 (a : Int)))
      (first | exact hca | exact BW2.at' hca | exact BW1.at' hca | go_keep)
      (first
        | (have X := BW1; go_at_call 105; refine (CT.out _ (by first | exact BW1 | exact below_dN BW1 1)).mono ?_; rintro e v2 ⟨rfl, hb⟩; have BW2 : Below w.heap.size w v2 := (by first | exact BW1.trans (hb.mono BW1.size) | exact (below_dN BW1 1).trans (hb.mono (below_dN BW1 1).size)); clear hb)
        | (go_at_call 105; refine (CR.out _ (by first | exact Below.refl _ _ | exact below_dN (Below.refl _ _) 1)).mono ?_; rintro e v1 ⟨rfl, hb⟩; have BW1 : Below w.heap.size w v1 := (by first | exact hb | exact (below_dN (Below.refl _ _) 1).trans hb); clear hb))
    all_goals
      go_wp2
      go_ret
      exact ⟨by rw [HCNT.out]; first | rfl | (rw [← hadd]; rfl) | simp, BW2⟩

theorem bits_allS {n : Nat} (hn : n ≤ 16) : bitsOf (2 ^ n - 1) = List.range n := by
  have h1 : 2 ^ n - 1 < 65536 := by
    have h2 : 2 ^ n ≤ 2 ^ 16 := Nat.pow_le_pow_right (by decide) hn
    have h3 : (2 : Nat) ^ 16 = 65536 := by decide
    have h4 : 0 < 2 ^ n := Nat.pow_pos (by decide)
    omega
  refine rising_ext _ _ (bitsOf_rising _) List.pairwise_lt_range fun x => ?_
  rw [mem_bitsOf' (by omega), testBit_firstOf, List.mem_range, decide_eq_true_eq]

set_option maxRecDepth 100000 in
set_option maxHeartbeats 4000000 in
theorem implStablesMany_any (v : Value) (g : List (List Int)) (w : World) (hg : Gr w v g) (hok : GOk g) (hT : Tab w) :
    Calls Tryd.prog 29 #[v] w fun e w' => e = .returned (.int .i64 ((cntL (ofG g) (List.range g.length) : Nat) : Int)) ∧ Below w.heap.size w w' := by
  have hg0 := hg
  obtain ⟨u, rfl, hr⟩ := hg
  obtain ⟨p, c, rfl, _⟩ := hr.shape
  obtain ⟨W0, hW0⟩ : ∃ W0, W0 = w.alloc (.cells #[.slice p g.length c] 29) := ⟨_, rfl⟩
  have hb0 : Below w.heap.size w W0 := by rw [hW0]; exact below_alloc _ _
  have HB0 := Lib.hid hb0
  have HBG : Hid (Box W0 w.heap.size 29 (.slice p g.length c)) := Lib.hid (by rw [hW0]; exact Box.new _ _ _)
  have HG := Lib.hid (hg0.below hb0)
  have HT := Lib.hid (hT.keep hb0)
  have HOK := Lib.hid hok
  have HDT := Lib.hid (dec_true hok)
  have h16 := hok.le
  have c0 := HBG.out.cell
  obtain ⟨M, hM⟩ : ∃ M, M = 2 ^ g.length - 1 := ⟨_, rfl⟩
  have hM16 : M < 65536 := by
    have h2 : 2 ^ g.length ≤ 2 ^ 16 := Nat.pow_le_pow_right (by decide) h16
    have h3 : (2 : Nat) ^ 16 = 65536 := by decide
    have h4 : 0 < 2 ^ g.length := Nat.pow_pos (by decide)
    omega
  have HBITS : Hid (bitsOf M = List.range g.length) := Lib.hid (by rw [hM]; exact bits_allS h16)
  have ALL : Hid (∀ (q : Option Addr) (d : Nat) (wz : World), Calls Tryd.prog 106 #[.slice q g.length d] wz fun e w' => e = .returned (.int .u32 (M : Int)) ∧ wz = w') := Lib.hid fun q d wz => by rw [hM]; exact all_any q g.length d (by omega) wz
  have CNT : Hid (∀ (wz : World) (q : Option Addr) (d : Nat), NE wz (.slice q g.length d) g.length (ofG g) → Tab wz → Calls Tryd.prog 105 #[.slice q g.length d, .int .u32 (M : Int)] wz fun e w' => e = .returned (.int .i64 ((cntL (ofG g) (List.range g.length) : Nat) : Int)) ∧ Below wz.heap.size wz w') := Lib.hid fun wz q d h ht => by
    have := countStables_any q d g.length (ofG g) 16 M wz (by rw [HBITS.out, List.length_range]; omega) (by omega) hM16 (fun i hi => by rw [hM, testBit_firstOf, decide_eq_true_eq] at hi; exact hi) h ht
    rw [HBITS.out] at this
    exact this
  obtain ⟨N, hN⟩ : ∃ N, N = cntL (ofG g) (List.range g.length) := ⟨_, rfl⟩
  rw [← hN] at CNT ⊢
  clear hr hg0 hb0 hok hT hM hN
  go_enter Tryd.func29, Tryd.ntmps29
  go_upto_region 1 with fail
  rw [← hW0]
  clear hW0
  go_wp2_with (first
    | (go_at_call 105; refine (CNT.out _ _ _ HNA.out (HT.out.keep HB3.out)).mono ?_; rintro e w4 ⟨rfl, hb4⟩; have HB4 := Lib.hid (HB3.out.trans (hb4.mono HB3.out.size)); clear hb4)
    | (go_at_call 106; refine (ALL.out _ _ _).mono ?_; rintro e w5 ⟨rfl, rfl⟩)
    | (go_at_call 89; refine (netsOf_any _ g _ (HG.out.below HB2.out) HOK.out).mono ?_; rintro e w3 ⟨x, rfl, ho, hb3⟩; have HNA := Lib.hid (neOfF HOK.out ho); obtain ⟨xp, xc, rfl, _⟩ := owns_capL ho; have HB3 := Lib.hid (HB2.out.trans (hb3.mono HB2.out.size)); clear ho hb3)
    | (go_at_call 87; refine (implGraphOk_any _ g _ HG.out).mono ?_; rintro e w2 ⟨he, hb2⟩; rw [HDT.out] at he; subst he; have HB2 := Lib.hid hb2; have c0 := hb2.at' c0; clear hb2))
  go_ret
  exact ⟨rfl, HB0.out.trans (HB4.out.mono HB0.out.size)⟩

end Go.Proofs.YtkppbmfliejnmaaDoor

/- Walk: the program's parts of a set. -/
namespace Go.Proofs.YtkppbmfliejnmaaDoor
open Go.RowKit

theorem ty_vsets : SlTy Tryd.prog 72 70 (.int .u32 0) 1 4 := ⟨Tryd.underlying72, by kernel_rfl, rfl, by decide, by decide⟩

theorem Tab.grownP {w w' : World} {r : Option Nat} (h : Tab w) (hg : w.grownBy w' r) (hr : some 0 ≠ r) : Tab w' := fun j hj => hg.cell (a := ⟨_, j, none⟩) (h j hj) hr

/-- Lists, as masks. -/
def mskL (ps : List (List Nat)) : List Nat := ps.map fun l => mask (natInts l)
theorem mskL_snoc (ps : List (List Nat)) (l : List Nat) : mskL (ps ++ [l]) = mskL ps ++ [mask (natInts l)] := by simp [mskL]
theorem mskL_length (ps : List (List Nat)) : (mskL ps).length = ps.length := by simp [mskL]

structure PtI (w wr : World) (x ov : Value) (n : Nat) (E : Nat → Nat → Bool) (W s : Nat) (os : List (List Nat)) : Prop where
  s16 : s < 65536
  sub : ∀ i, s.testBit i = true → i < n
  net : NE wr x n E
  own : wr.ownsRow w.heap.size 70 1 ov os.length ((mskL os).map u32v)
  bel : Below w.heap.size w wr
  on : PartOn E (bitsOf W) os (bitsOf s)
  cnt : os.length + (bitsOf s).length ≤ 32
  lt : ∀ l ∈ os, l.Pairwise (· < ·) ∧ ∀ i ∈ l, i < n
  tab : Tab wr
  tpos : 0 < w.heap.size

set_option maxRecDepth 100000 in
set_option maxHeartbeats 4000000 in
theorem partsOf_any (x : Value) (y : Int) (n : Nat) (E : Nat → Nat → Bool) (W : Nat) (hy : y = W) (hW : W < 65536) (hWn : ∀ i, W.testBit i = true → i < n) (w : World) (hx : NE w x n E) (hT : Tab w) :
    Calls Tryd.prog 212 #[x, .int .u32 y] w fun e w' => ∃ (ov : Value) (ps : List (List Nat)), e = .returned ov ∧ Parts E (bitsOf W) ps ∧
      w'.ownsRow w.heap.size 70 1 ov ps.length ((mskL ps).map u32v) ∧ ps.length ≤ 32 ∧ (∀ l ∈ ps, l.Pairwise (· < ·) ∧ ∀ i ∈ l, i < n) ∧ Tab w' ∧ Below w.heap.size w w' := by
  subst hy
  have hle := hx.le
  have hbA := below_alloc w (.cells #[] 70)
  have START := Lib.hid (show PtI w (w.alloc (.cells #[] 70)) x (.slice (some ⟨w.heap.size, 0, none⟩) 0 0) n E W W [] from
    { s16 := hW, sub := hWn, net := hx.next hbA, own := ownsRow_empty _ _ _, bel := hbA, on := partOn_start _ _, cnt := by have := bitsOf_length W; simp; omega, lt := by simp, tab := hT.keep hbA, tpos := hT.pos })
  obtain ⟨xp, xc, rfl⟩ : ∃ p c, x = .slice p n c := by obtain ⟨p, c, e, _⟩ := hx.sl; exact ⟨p, c, e⟩
  have HX := Lib.hid hx
  clear hbA hx hT hWn
  go_enter Tryd.func212, Tryd.ntmps212
  go_wp2
  go_loopw [1, 5] (fun s1 s5 wr => ∃ (s : Nat) (os : List (List Nat)), s1 = .int .u32 (s : Int) ∧ PtI w wr (.slice xp n xc) s5 n E W s os) (fun s1 _ _ => (bitsOf (intOf s1).toNat).length)
  case atStart => exact ⟨W, [], rfl, START.out⟩
  case round =>
    clear START
    obtain ⟨s, os, rfl, hI⟩ := hrel
    obtain ⟨op, oc, rfl⟩ : ∃ p c, u5 = .slice p os.length c := by
      rcases hI.own.2 with ⟨h1, h2⟩ | ⟨g1, cap, cur, h1, _⟩
      · exact ⟨none, 0, by rw [h1, h2]⟩
      · exact ⟨_, _, h1⟩
    have HI := Lib.hid hI
    have hs16 := hI.s16
    have hcnt := hI.cnt
    clear hI
    by_cases h0 : s = 0
    · have h0' : ((s : Int) != 0) = false := by simp [h0]
      have H0 := Lib.hid h0
      clear h0
      go_wp2
      go_ret
      have hon := HI.out.on
      rw [H0.out, bitsOf_zero] at hon
      exact ⟨_, os, rfl, partOn_stop hon, HI.out.own, by omega, HI.out.lt, HI.out.tab, HI.out.bel⟩
    · have h0' : ((s : Int) != 0) = true := by simp; omega
      have hst := bitsOf_step s h0 (by omega)
      obtain ⟨hub, hu32, _⟩ := testBit_ctz s h0 (by omega)
      have H0 := Lib.hid h0
      obtain ⟨u, hu⟩ : ∃ u, u = Lib.ctz 32 s := ⟨_, rfl⟩
      rw [← hu] at hst hub hu32
      have HU := Lib.hid hu
      have HST := Lib.hid hst
      have HUB := Lib.hid hub
      have hos : os.length < 1000000000 := by omega
      have hown := HI.out.own
      have htab := HI.out.tab
      clear h0 hu hst hub
      go_wp2_with (first
        | (at_builtin; refine wpList_app1 ty_vsets rfl rfl rfl ho4 rfl rfl hos (by have := HI.out.bel.size; have := hb4.size; omega) ?_; intro v' w5 hown' hg _)
        | (go_at_call 219; refine (reach_any _ _ _ n E u s rfl rfl hs16 HI.out.sub HUB.out _ HI.out.net htab).mono ?_; rintro e w4 ⟨m, rfl, hm16, hmb, hb4⟩; have ho4 := ownsRow_below hown hb4; have HM := Lib.hid hmb; have hmi : ((m : Nat) : Int) < 4294967296 := (by omega))
        | (go_at_call 185; refine (least_any _ s rfl H0.out (by omega) _ htab).mono ?_; rintro e w3 ⟨he3, rfl⟩; rw [← HU.out] at he3; subst he3))
      have hand : bits BinOp.andNot IntKind.u32 (s : Int) (m : Int) = ((sub s m : Nat) : Int) := u32_andNot_nat s m (by omega) (by omega)
      have hM' : m = mask (natInts (partL E (bitsOf s) u)) := Nat.eq_of_testBit_eq fun i => by
        rw [Bool.eq_iff_iff, mask_bit, decide_eq_true_eq]
        exact HM.out i
      have hrest : bitsOf (sub s m) = restL E (bitsOf s) u := by
        refine rising_ext _ _ (bitsOf_rising _) (restL_rising (bitsOf_rising _) u) fun i => ?_
        rw [mem_left (sub_lt16 _ _ hs16), testBit_sub s m (by omega) (by omega), mem_restL, mem_left hs16, Bool.and_eq_true, Bool.not_eq_true', Bool.eq_false_iff]
        constructor
        · rintro ⟨h1, h2⟩
          exact ⟨h1, fun hr => h2 ((HM.out i).2 (mem_partL.2 ⟨(mem_left hs16).2 h1, hr⟩))⟩
        · rintro ⟨h1, h2⟩
          exact ⟨h1, fun hm => h2 (mem_partL.1 ((HM.out i).1 hm)).2⟩
      have hlt := restL_lt (E := E) (L := bitsOf s) (u := u) ((mem_left hs16).2 HUB.out)
      have hon := HI.out.on
      rw [HST.out] at hon
      have hon2 := partOn_step hon
      rw [← HST.out, ← hrest] at hon2
      rw [← hrest] at hlt
      have hb5 := below_grown (HI.out.bel.trans (hb4.mono HI.out.bel.size)) ho4 hg (Nat.le_refl _) (by have := HI.out.bel.size; have := hb4.size; omega)
      go_roundw
      case rel =>
        refine ⟨sub s m, os ++ [partL E (bitsOf s) u], val_int hand, ?_⟩
        exact { s16 := sub_lt16 _ _ hs16
                sub := fun i hi => HI.out.sub i (by rw [testBit_sub s m (by omega) (by omega)] at hi; simp only [Bool.and_eq_true] at hi; exact hi.1)
                net := HX.out.next hb5
                own := by rw [mskL_snoc, ← hM', List.map_append, List.length_append]; exact hown'
                bel := hb5
                on := hon2
                cnt := by rw [List.length_append]; simp; omega
                lt := fun l hl => by
                  rcases List.mem_append.1 hl with h | h
                  · exact HI.out.lt l h
                  · simp only [List.mem_singleton] at h
                    subst h
                    exact ⟨partL_rising (bitsOf_rising _) u, fun i hi => HI.out.sub i ((mem_left hs16).1 (mem_partL.1 hi).1)⟩
                tab := (htab.keep hb4).grownP hg (fun e => by
                  have := (ho4.lt _ e.symm).1
                  have := HI.out.tpos
                  omega)
                tpos := HI.out.tpos }
      case measure =>
        rw [hand]
        simp [intOf]
        omega

end Go.Proofs.YtkppbmfliejnmaaDoor

/- Walks: l8Meet, l1All (the reference's cliques). -/
namespace Go.Proofs.YtkppbmfliejnmaaDoor
open Go.RowKit

set_option maxRecDepth 100000 in
set_option maxHeartbeats 1000000 in
theorem l1All_any (z : Int) (n : Nat) (hz : z = n) (hn : n ≤ 1000) (w : World) :
    Calls Tryd.prog 143 #[.int .i64 z] w fun e w' => ∃ ov, e = .returned ov ∧ w'.ownsRow w.heap.size 2 1 ov n ((natInts (List.range n)).map (Value.int .i64)) ∧ Below w.heap.size w w' := by
  subst hz
  have HO := Lib.hid (ownsRow_empty w 2 1)
  have HB := Lib.hid (below_alloc w (.cells #[] 2))
  go_enter Tryd.func143, Tryd.ntmps143
  go_wp2
  go_loopw [3, 4] (fun o i wr => ∃ k : Nat, k ≤ n ∧ i = .int .i64 k ∧ wr.ownsRow w.heap.size 2 1 o k ((natInts (List.range k)).map (Value.int .i64)) ∧ Below w.heap.size w wr) (fun _ i _ => n - (intOf i).toNat)
  case atStart => exact ⟨0, Nat.zero_le _, rfl, HO.out, HB.out⟩
  case round =>
    obtain ⟨k, hk, rfl, hown, hbel⟩ := hrel
    have hsz := hbel.size
    by_cases hlt : k < n
    · go_wp2_with (at_builtin; refine wpList_app1 ty_i64 rfl rfl rfl hown rfl rfl (by omega) (by omega) ?_; intro v' w1 hown' hg _)
      go_roundw
      case rel => exact ⟨k + 1, by omega, by go_num, by rw [List.range_succ, show natInts (List.range k ++ [k]) = natInts (List.range k) ++ [(k : Int)] by simp [natInts], List.map_append]; exact hown', below_grown hbel hown hg (Nat.le_refl _) hsz⟩
      case measure => simp [intOf]; omega
    · obtain rfl : k = n := by omega
      go_wp2
      go_ret
      exact ⟨_, rfl, hown, hbel⟩

theorem nums_at {w : World} {E : TypeId} {p : Option Addr} {m c : Nat} {xs : List Int} (h : Nums w E .i64 (.slice p m c) xs) : At w E p (xs.map (Value.int .i64)) := by
  obtain ⟨p', c', e, _, _, _, hat⟩ := h
  simp only [Value.slice.injEq] at e
  obtain ⟨rfl, _, _⟩ := e
  exact hat
/-- Those of xs that are in ys, up to the k-th. -/
def meetL (xs : List Nat) (ys : List Int) (k : Nat) : List Nat := (xs.take k).filter fun j => decide ((j : Int) ∈ ys)
theorem meetL_succ {xs : List Nat} {ys : List Int} {k : Nat} (h : k < xs.length) : meetL xs ys (k + 1) = if ((xs[k] : Nat) : Int) ∈ ys then meetL xs ys k ++ [xs[k]] else meetL xs ys k := by
  unfold meetL
  rw [take_snoc _ k h, List.filter_append]
  by_cases hm : ((xs[k] : Nat) : Int) ∈ ys
  · rw [if_pos hm]; simp [hm]
  · rw [if_neg hm]; simp [hm]
theorem meetL_len (xs : List Nat) (ys : List Int) (k : Nat) : (meetL xs ys k).length ≤ xs.length := Nat.le_trans (List.length_filter_le _ _) (by rw [List.length_take]; omega)

end Go.Proofs.YtkppbmfliejnmaaDoor

/- Walks: l8Cliques. -/
namespace Go.Proofs.YtkppbmfliejnmaaDoor
open Go.RowKit

theorem wanted_wp {o : Oper} {y : Nat → Option Bool} {X F : Prop} (h : o.guard = none) (k : X) : if Region.wanted o y = true then X else F := by
  have hw : Region.wanted o y = true := by simp [Region.wanted, h]
  rw [if_pos hw]
  exact k
theorem wp_apps {P : Program} {T E : TypeId} {z : Value} {size bytes : Nat} (S : SlTy P T E z size bytes) {w : World} {o : Oper} {a : Act} {K : Act → World → Prop} {Q : Exit → Act → World → Prop}
    {s x : Operand} (ho : o.op = .call { callee := .builtin .append, args := #[s, x], argTypes := #[T, T] })
    {base : Nat} {v : Value} {n : Nat} {xs : List Value} (hs : a.eval s = v) (hown : w.ownsRow base E size v n xs)
    {u : Value} {m : Nat} {news : List Value} (hx : a.eval x = u) (hu : Sl w E u m news) (hl : news.length = m * size) (h1 : ∀ x ∈ news, x.oneCell' = true)
    (hnm : n + m ≤ 1000000000) (hbase : base ≤ w.heap.size)
    (h : ∀ v' w', w'.ownsRow base E size v' (n + m) (xs ++ news) → w.grownBy w' v.ownBlock → K (a.put o.dst v') w') :
    Oper.wp P o a w K Q := by
  obtain ⟨v', w', hr, h2, h3, h4⟩ := run_app S w o.type base v n xs hown u m news hu hl h1 hnm hbase
  unfold Oper.wp execOp
  simp only [ho, resolve, invoke, builtin, Sem.run_bind, Sem.run_pure, Result.andThen_ok, List.map_toArray, List.map_cons, List.map_nil, hs, hx, hr]
  exact h v' w' h2 h3
theorem Nums.slC {w w' : World} {E : TypeId} {v : Value} {l : List Nat} (h : Nums w E .i64 v (natInts l)) (hb : Below w.heap.size w w') : Sl w' E v l.length ((natInts l).map (Value.int .i64)) := by
  have := h.below hb
  unfold Nums at this
  rwa [natInts_length] at this
theorem built_sl {w w' : World} {x : Int} (hb : Below (w.alloc (.cells #[.int .i64 x] 2)).heap.size ((w.alloc (.cells #[.int .i64 x] 2)).drewN 1) w') : Sl w' 2 (.slice (some ⟨w.heap.size, 0, none⟩) 1 1) 1 [Value.int .i64 x] := by
  have h : Sl ((w.alloc (.cells #[.int .i64 x] 2)).drewN 1) 2 (.slice (some ⟨w.heap.size, 0, none⟩) 1 1) 1 [Value.int .i64 x] := by
    refine ⟨_, 1, rfl, (fun e => by cases e), Nat.le_refl _, by omega, Or.inr ⟨w.heap.size, 0, #[.int .i64 x], (0, 0), rfl, heap_alloc_new w _, ?_⟩⟩
    intro j u hu
    match j, hu with
    | 0, hu => simpa using hu
    | j + 1, hu => simp at hu
  exact h.below hb
theorem owns_shapeT {w : World} {base : Nat} {E : TypeId} {size n : Nat} {v : Value} {xs : List Value} (h : w.ownsRow base E size v n xs) : ∃ p c, v = .slice p n c := by
  rcases h.2 with ⟨rfl, h0⟩ | ⟨b, c, _, rfl, _⟩
  · exact ⟨none, 0, by rw [h0]⟩
  · exact ⟨_, _, rfl⟩
theorem row_nat {ps : List (List Nat)} {j : Nat} (h : j < ps.length) : row (ps.map natInts) j = natInts ps[j] := by simp [row, h]
theorem SG.app {w w' : World} {base : Nat} {u u' : Value} {ps qs : List (List Nat)} {vals vals2 : List Value} (hl : vals.length = ps.length) (hl2 : vals2.length = qs.length) (ho : w.ownsRow base 33 1 u ps.length vals) (hr : ∀ j, j < ps.length → Nums w 2 .i64 (vals.getD j undef) (row (ps.map natInts) j))
    (hr2 : ∀ j, j < qs.length → Nums w 2 .i64 (vals2.getD j undef) (row (qs.map natInts) j)) (ho' : w'.ownsRow base 33 1 u' (ps.length + qs.length) (vals ++ vals2)) (hg : w.grownBy w' u.ownBlock) : SG w' base (.agg #[u']) ((ps ++ qs).map natInts) := by
  refine ⟨u', vals ++ vals2, rfl, by simp [hl, hl2], by rw [List.length_map, List.length_append]; exact ho', fun j hj => ?_⟩
  rw [List.length_map, List.length_append] at hj
  rw [row_nat (by rw [List.length_append]; exact hj)]
  by_cases h : j < ps.length
  · have e : (vals ++ vals2).getD j undef = vals.getD j undef := by
      rw [List.getD_eq_getElem?_getD, List.getD_eq_getElem?_getD, List.getElem?_append_left (by omega)]
    rw [e, List.getElem_append_left h, ← row_nat h]
    exact (hr j h).other ho hg (by decide)
  · have e : (vals ++ vals2).getD j undef = vals2.getD (j - ps.length) undef := by
      rw [List.getD_eq_getElem?_getD, List.getD_eq_getElem?_getD, List.getElem?_append_right (by omega), hl]
    rw [e, List.getElem_append_right (by omega), ← row_nat (by omega)]
    exact (hr2 _ (by omega)).other ho hg (by decide)
theorem sg_baseC {w : World} {b B : Nat} {v : Value} {g : List (List Int)} (h : SG w B v g) (hb : b ≤ B) : SG w b v g := by
  obtain ⟨u, vals, h1, h2, h3, h4⟩ := h
  exact ⟨u, vals, h1, h2, ownsRow_base h3 hb, h4⟩
theorem sg_one {w : World} {base : Nat} {v : Value} {l : List Nat} (hb : base ≤ w.heap.size) (h : Nums w 2 .i64 v (natInts l)) :
    SG (w.alloc (.cells #[v] 33)) base (.agg #[.slice (some ⟨w.heap.size, 0, none⟩) 1 1]) ([l].map natInts) := by
  refine ⟨_, [v], rfl, rfl, ⟨rfl, .inr ⟨w.heap.size, 1, #[v], rfl, hb, heap_alloc_new w _, Nat.le_refl _, by decide, rfl, rfl⟩⟩, fun j hj => ?_⟩
  obtain rfl : j = 0 := by simp at hj; omega
  exact h.below (below_alloc w _)
theorem sg_cells {w : World} {gg : List (List Int)} {vals : List Value} (hl : vals.length = gg.length) (h : ∀ j, j < gg.length → Nums w 2 .i64 (vals.getD j undef) (row gg j)) : ∀ x ∈ vals, x.oneCell' = true := by
  intro x hx
  obtain ⟨j, hj, rfl⟩ := List.getElem_of_mem hx
  have hn := h j (by omega)
  have e : vals.getD j undef = vals[j] := by rw [List.getD_eq_getElem?_getD, List.getElem?_eq_getElem hj]; rfl
  rw [e] at hn
  obtain ⟨p, c, e, _⟩ := hn.shape
  rw [e]
  rfl

def adS (g : List (List Int)) : Nat → Nat → Bool := fun r j => decide ((j : Int) ∈ row g r)

theorem nums_drop1 {w : World} {E : TypeId} {b o c k : Nat} {l : List Nat} (hk : k ≤ l.length) (h : Nums w E .i64 (.slice (some ⟨b, o, none⟩) l.length c) (natInts l)) : Nums w E .i64 (.slice (some ⟨b, o + k, none⟩) (l.length - k) (c - k)) (natInts (l.drop k)) := by
  obtain ⟨p, c', e, _, hnc, hn, hat⟩ := h.shape
  simp only [Value.slice.injEq] at e
  obtain ⟨rfl, -, rfl⟩ := e
  rw [natInts_length] at hnc hn
  refine ⟨_, _, by rw [natInts_length, List.length_drop], (fun e => by cases e), by rw [natInts_length, List.length_drop]; omega, by rw [natInts_length, List.length_drop]; omega, ?_⟩
  have e3 : (natInts (l.drop k)).map (Value.int .i64) = ((natInts l).map (Value.int .i64)).drop k := by simp [natInts, List.map_drop]
  rw [e3]
  exact hat.drop k
theorem nums_drop0 {w : World} {E : TypeId} {b o c k : Nat} {l : List Nat} (hk : l.length = k) (_h : Nums w E .i64 (.slice (some ⟨b, o, none⟩) l.length c) (natInts l)) : Nums w E .i64 (.slice (some ⟨b, o, none⟩) 0 0) (natInts (l.drop k)) := by
  have e : l.drop k = [] := List.drop_of_length_le (by omega)
  rw [e]
  exact ⟨_, 0, rfl, (fun e => by cases e), by simp [natInts], by simp [natInts], .inl rfl⟩
theorem take_sl {w : World} {E : TypeId} {a : Addr} {n c k : Nat} {l : List Nat} (hk : k ≤ l.length) (h : Nums w E .i64 (.slice (some a) n c) (natInts l)) : Sl w E (.slice (some a) k c) k ((natInts (l.take k)).map (Value.int .i64)) := by
  obtain ⟨p, c', e, _, hnc, hn, hat⟩ := h.shape
  simp only [Value.slice.injEq] at e
  obtain ⟨rfl, -, rfl⟩ := e
  rw [natInts_length] at hnc hn
  refine ⟨_, _, rfl, (fun e => by cases e), by omega, by omega, ?_⟩
  have e3 : (natInts (l.take k)).map (Value.int .i64) = ((natInts l).map (Value.int .i64)).take k := by simp [natInts, List.map_take]
  rw [e3]
  exact hat.take k
theorem natInts_app (l m : List Nat) : natInts (l ++ m) = natInts l ++ natInts m := by simp [natInts]
theorem meet_end {w : World} {base : Nat} {E : TypeId} {v : Value} {xs : List Nat} {g : List (List Int)} {y : Nat} (h : w.ownsRow base E 1 v (meetL xs (g.getD y []) xs.length).length ((natInts (meetL xs (g.getD y []) xs.length)).map (Value.int .i64))) :
    w.ownsRow base E 1 v (xs.filter (adS g y)).length ((natInts (xs.filter (adS g y))).map (Value.int .i64)) := by
  have e : meetL xs (g.getD y []) xs.length = xs.filter (adS g y) := by
    unfold meetL
    rw [List.take_length]
    rfl
  rwa [e] at h

end Go.Proofs.YtkppbmfliejnmaaDoor
