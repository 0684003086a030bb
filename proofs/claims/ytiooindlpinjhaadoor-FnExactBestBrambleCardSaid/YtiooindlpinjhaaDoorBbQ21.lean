/- Walks: the odd parts (the program's oddParts, the reference's l27Parts). -/
import Derived.Test.YtiooindlpinjhaaDoorBbQ18
import Derived.Test.YtiooindlpinjhaaDoorBbQ20
import Derived.Test.YtiooindlpinjhaaDoorBbQ7
import Derived.Test.YtiooindlpinjhaaDoorBbQ2
namespace Go.Proofs.YtiooindlpinjhaaDoor
open Go.RowKit

theorem oddL_snoc (ps : List (List Nat)) (p : List Nat) : oddL (ps ++ [p]) = oddL ps + p.length % 2 := by simp [oddL]
theorem parts_fewBa {E : Nat → Nat → Bool} {L : List Nat} {ps : List (List Nat)} (h : Parts E L ps) : ps.length ≤ L.length := by
  induction h with
  | done => exact Nat.le_refl _
  | step u L ps h ih =>
    have := restL_lt (E := E) (L := u :: L) (u := u) (by simp)
    rw [List.length_cons]
    omega
theorem oddL_le : ∀ ps : List (List Nat), oddL ps ≤ ps.length
  | [] => Nat.le_refl _
  | p :: ps => by
    have := oddL_le ps
    have e : oddL (p :: ps) = p.length % 2 + oddL ps := rfl
    rw [e, List.length_cons]
    omega
theorem owns_shapeBa {w : World} {base : Nat} {E : TypeId} {size n : Nat} {v : Value} {xs : List Value} (h : w.ownsRow base E size v n xs) : ∃ p c, v = .slice p n c := by
  rcases h.2 with ⟨rfl, h0⟩ | ⟨b, c, _, rfl, _⟩
  · exact ⟨none, 0, by rw [h0]⟩
  · exact ⟨_, _, rfl⟩

set_option maxRecDepth 100000 in
set_option maxHeartbeats 4000000 in
theorem oddParts_any (x : Value) (y : Int) (n : Nat) (E : Nat → Nat → Bool) (W : Nat) (hy : y = W) (hW : W < 65536) (hWn : ∀ i, W.testBit i = true → i < n) (w : World) (hx : NE w x n E) (hT : Tab w) :
    Calls Tryd.prog 59 #[x, .int .u32 y] w fun e w' => e = .returned (.int .i64 ((oddK E (bitsOf W) : Nat) : Int)) ∧ Below w.heap.size w w' := by
  subst hy
  have n16 := hx.le
  obtain ⟨xp, xc, rfl⟩ : ∃ p c, x = .slice p n c := by obtain ⟨p, c, e, _⟩ := hx.sl; exact ⟨p, c, e⟩
  have HX := Lib.hid hx
  have HT := Lib.hid hT
  have HWN := Lib.hid hWn
  clear hx hT hWn
  go_enter Tryd.func59, Tryd.ntmps59
  go_wp2_with (go_at_call 93; refine (partsOf_any _ _ n E W rfl hW HWN.out _ HX.out HT.out).mono ?_; rintro e w2 ⟨ov, ps, rfl, hp, ho, hl32, hm, _, hb⟩; obtain ⟨op, oc, rfl⟩ := owns_shapeBa ho; have HP := Lib.hid hp; have HO := Lib.hid ho; have HM := Lib.hid hm; have HB := Lib.hid hb; clear hp ho hm hb)
  go_loopw [5, 12] (fun mv kv wr => ∃ k : Nat, k ≤ ps.length ∧ kv = .int .i64 (k : Int) ∧ mv = .int .i64 ((oddL (ps.take k) : Nat) : Int) ∧ Hid (Below w2.heap.size w2 wr)) (fun _ kv _ => ps.length - (intOf kv).toNat)
  case atStart => exact ⟨0, Nat.zero_le _, rfl, rfl, Lib.hid (Below.refl _ _)⟩
  case round =>
    obtain ⟨k, hk, rfl, rfl, HBR⟩ := hrel
    by_cases hlt : k < ps.length
    · obtain ⟨p, hpk⟩ : ∃ p, p = ps[k] := ⟨_, rfl⟩
      obtain ⟨hpr, hpn⟩ := HM.out p (by rw [hpk]; exact List.getElem_mem hlt)
      obtain ⟨m, hm⟩ : ∃ m, m = mask (natInts p) := ⟨_, rfl⟩
      have hm16 : m < 65536 := by rw [hm]; exact mask_nat_lt16 fun x hx => by have := hpn x hx; omega
      have hbm : bitsOf m = p := by rw [hm]; exact bitsOf_maskN hpr fun x hx => by have := hpn x hx; omega
      obtain ⟨pb, po, hpe⟩ : ∃ b c, op = some ⟨b, 0, none⟩ ∧ c = 0 := by
        rcases HO.out.2 with ⟨_, h0⟩ | ⟨b, c, _, h1, _⟩
        · omega
        · simp only [Value.slice.injEq] at h1
          exact ⟨b, 0, h1.1, rfl⟩
      obtain ⟨rfl, _⟩ := hpe
      have hcell : wr.cell? ⟨pb, k, none⟩ = some (.int .u32 (m : Int)) := by
        refine HBR.out.at' ?_
        rw [HO.out.cellAt k (by omega), hm, hpk]
        simp [mskL, u32v, hlt]
      have SZ : Hid (∀ wz, Calls Tryd.prog 60 #[.int .u32 (m : Int)] wz fun e w' => e = .returned (.int .i64 (p.length : Int)) ∧ Below wz.heap.size wz w') := Lib.hid fun wz => by
        refine (size16_any _ m rfl hm16 wz).mono ?_
        rintro e w' ⟨rfl, q, rfl⟩
        rw [hbm]
        exact ⟨rfl, below_dN (Below.refl _ _) _⟩
      have hpl : p.length ≤ 32 := by
        have := bitsOf_length m
        rw [hbm] at this
        exact this
      have hol := oddL_le (ps.take k)
      have hos : oddL (ps.take (k + 1)) = oddL (ps.take k) + p.length % 2 := by
        rw [take_snoc ps k hlt, oddL_snoc, hpk]
      have htl : (ps.take k).length ≤ 32 := by rw [List.length_take]; omega
      obtain ⟨o1, ho1⟩ : ∃ o1, o1 = oddL (ps.take k) := ⟨_, rfl⟩
      obtain ⟨pl, hpl2⟩ : ∃ pl, pl = p.length := ⟨_, rfl⟩
      obtain ⟨r, hr⟩ : ∃ r, r = pl % 2 := ⟨_, rfl⟩
      have htm : Int.tmod (pl : Int) 2 = (r : Int) := by rw [hr]; exact (Int.ofNat_tmod pl 2).symm
      rw [← hpl2, ← hr, ← ho1] at hos
      rw [← hpl2] at hpl SZ
      rw [← ho1] at hol ⊢
      have hr1 : r ≤ 1 := by omega
      have hki : (k : Int) < (ps.length : Int) := by omega
      have hk0 : (0 : Int) ≤ (k : Int) := by omega
      have HOS := Lib.hid hos
      have hob : o1 ≤ 32 := by omega
      clear hpl2 hr ho1 hos hol hbm hm hpk hpr hpn
      go_wp2_with (go_at_call 60; refine (SZ.out _).mono ?_; rintro e w3 ⟨rfl, hb3⟩; have HB3 := Lib.hid (HBR.out.trans (hb3.mono HBR.out.size)); clear hb3)
      go_roundw
      case rel => exact ⟨k + 1, by omega, by go_num, by rw [HOS.out]; go_num, HB3⟩
      case measure => simp [intOf]; omega
    · obtain rfl : k = ps.length := by omega
      have hfin : Hid (oddL (ps.take ps.length) = oddK E (bitsOf W)) := Lib.hid (by rw [List.take_length, oddK_eq HP.out])
      rw [hfin.out]
      go_wp2_with fail
      go_ret
      exact ⟨rfl, HB.out.trans (HBR.out.mono HB.out.size)⟩

end Go.Proofs.YtiooindlpinjhaaDoor

/- Walk: the program folds. -/
namespace Go.Proofs.YtiooindlpinjhaaDoor
open Go.RowKit

/-- Sets of neighbours that the walk can go on with. -/
structure NOk (a : List Nat) (left : Nat) : Prop where
  le : a.length ≤ 16
  lt : ∀ s ∈ a, s < 65536
  left16 : left < 65536
  inn : ∀ v, left.testBit v = true → v < a.length

theorem near_in {a : List Nat} {left v : Nat} (h : NOk a left) : ∀ x ∈ nearL a left v, ∃ i : Nat, x = (i : Int) ∧ i < a.length := by
  intro x hx
  obtain ⟨i, rfl, _, h2⟩ := (mem_near h.left16).1 hx
  exact ⟨i, rfl, h.inn i h2⟩

theorem NOk.pair {a : List Nat} {left v : Nat} (h : NOk a left) (h2 : (nearL a left v).length ≤ 2) {f : Fd} (hf : f = atRow v (nearL a left v)) (hB : 0 ≤ f.B) :
    ∃ p q : Nat, f.A = p ∧ f.B = q ∧ p < a.length ∧ q < a.length ∧ p ≠ q := by
  obtain ⟨_, hAB⟩ := atRow_cases (v : Int) (near_rising a left v) h2 (fun x hx => by obtain ⟨i, rfl, _⟩ := near_in h x hx; omega)
  rw [← hf] at hAB
  rcases hAB with ⟨k, _⟩ | ⟨hA, hB', h3, h4, h5⟩
  · omega
  · obtain ⟨p, hp, hpl⟩ := near_in h _ hA
    obtain ⟨q, hq, hql⟩ := near_in h _ hB'
    exact ⟨p, q, hp, hq, hpl, hql, by omega⟩

theorem NOk.away {a : List Nat} {left v : Nat} (h : NOk a left) (hv : left.testBit v = true) (h2 : (nearL a left v).length ≤ 2) {f : Fd} (hf : f = atRow v (nearL a left v)) : NOk (awayL a f) (sub left (2 ^ v)) := by
  have hle := h.le
  have hvl := h.inn v hv
  refine ⟨by rw [awayL_length]; exact hle, ?_, sub_lt16 _ _ h.left16, fun u hu => ?_⟩
  · by_cases hB : 0 ≤ f.B
    · obtain ⟨p, q, hp, hq, hpl, hql, _⟩ := h.pair h2 hf hB
      have e : awayL a f = joinL a p q := by
        show (if _ then _ else _) = _
        rw [if_pos hB, hp, hq, Int.toNat_natCast, Int.toNat_natCast]
      rw [e]
      exact joinL_lt16 h.lt (by omega) (by omega)
    · have e : awayL a f = a := if_neg hB
      rw [e]; exact h.lt
  · rw [awayL_length]
    exact h.inn u ((testBit_sub1 h.left16 (by omega) u).1 hu).1

theorem bits_sub_lt {left v : Nat} (h : left < 65536) (hv : left.testBit v = true) (h16 : v < 16) : (bitsOf (sub left (2 ^ v))).length < (bitsOf left).length := by
  have h1 := list_sub h h16
  have h2 : ((v : Nat) : Int) ∈ natInts (bitsOf left) := mem_natInts.2 ⟨v, (mem_left h).2 hv, rfl⟩
  have h3 := lessL_length_lt h2
  rw [h1, natInts_length, natInts_length] at h3
  exact h3

theorem grown_own {w w' w'' : World} {E : TypeId} {size n : Nat} {v : Value} {xs : List Value} {r : Option Nat} (h : w.grownBy w' r) (ho : w'.ownsRow w.heap.size E size v n xs) (hg : w'.grownBy w'' v.ownBlock) : w.grownBy w'' r :=
  ⟨hg.os.trans h.os, hg.tape.trans h.tape, hg.output.trans h.output, Nat.le_trans h.size hg.size, fun k hk hne => (hg.block k (Nat.lt_of_lt_of_le hk h.size) (fun e => by have := (ho.lt k e.symm).1; omega)).trans (h.block k hk hne)⟩

theorem Tab.grown {w w' : World} {r : Option Nat} (h : Tab w) (hg : w.grownBy w' r) (hr : some 0 ≠ r) : Tab w' := fun j hj => hg.cell (a := ⟨_, j, none⟩) (h j hj) hr

theorem Sl.shape {w : World} {E : TypeId} {v : Value} {n : Nat} {vals : List Value} (h : Sl w E v n vals) : ∃ p c, v = .slice p n c := by
  obtain ⟨p, c, e, _⟩ := h
  exact ⟨p, c, e⟩

end Go.Proofs.YtiooindlpinjhaaDoor

/- Walks: the program's isSeries, SeriesIn, FoldedOf, TwoOrder. -/
namespace Go.Proofs.YtiooindlpinjhaaDoor
open Go.RowKit

theorem all_any' (p : Option Addr) (n c M : Nat) (hn : n < 32) (hM : M = 2 ^ n - 1) (w : World) :
    Calls Tryd.prog 56 #[.slice p n c] w fun e w' => e = .returned (.int .u32 (M : Int)) ∧ w = w' := by
  subst hM; exact all_any p n c hn w

theorem bits_nil {l : Nat} (h : l < 65536) : (bitsOf l).length = 0 ↔ l = 0 := by
  constructor
  · intro e
    by_cases h0 : l = 0
    · exact h0
    · have := bitsOf_step l h0 (by omega)
      rw [this] at e
      simp at e
  · rintro rfl; rw [bitsOf_zero]; rfl

theorem nOk_start {g : List (List Int)} (h : GOk g) {M : Nat} (hM : M = 2 ^ g.length - 1) : NOk (netL g) M ∧ (bitsOf M).length ≤ 16 ∧ (netL g).length = g.length := by
  subst hM
  have hs := same_start h
  refine ⟨⟨hs.le, hs.lt, hs.left16, hs.inn⟩, ?_, hs.len.symm⟩
  have := natInts_range g.length h.le
  rw [← natInts_length, this, allL_length]
  exact h.le

theorem foldsN_S {g : List (List Int)} (h : GOk g) {M : Nat} (hM : M = 2 ^ g.length - 1) {fs : List Fd} {l : Nat} {a' : List Nat} (hf : FoldsN (netL g) M fs l a') : ∃ g', Folds g (allL g.length) fs (natInts (bitsOf l)) g' := by
  subst hM
  obtain ⟨g', h1, _⟩ := hf.same (same_start h)
  exact ⟨g', h1⟩

end Go.Proofs.YtiooindlpinjhaaDoor

/- Walks: the size of a greatest matching within each set (the program's onSets at mostEdges). -/
namespace Go.Proofs.YtiooindlpinjhaaDoor
open Go.RowKit

theorem sub_bit {s v : Nat} (hs : s < 65536) (hv : v < 16) (j : Nat) : (Go.Proofs.YtiooindlpinjhaaDoor.sub s (2 ^ v)).testBit j = (s.testBit j && !decide (v = j)) := by
  have := pow_lt32 v (by omega)
  rw [testBit_sub _ _ (by omega) this, testBit_pow]
theorem sub_le (s v : Nat) (hs : s < 65536) (hv : v < 16) : Go.Proofs.YtiooindlpinjhaaDoor.sub s (2 ^ v) < 65536 := by
  have : Go.Proofs.YtiooindlpinjhaaDoor.sub s (2 ^ v) < 2 ^ 16 := Nat.lt_pow_two_of_testBit _ fun j hj => by
    rw [sub_bit hs hv, Nat.testBit_lt_two_pow (Nat.lt_of_lt_of_le (show s < 2 ^ 16 by omega) (Nat.pow_le_pow_right (by decide) hj))]
    rfl
  omega
/-- Without a member a set has a smaller number. -/
theorem sub_less {s v : Nat} (hs : s < 65536) (hv : v < 16) (hb : s.testBit v = true) : Go.Proofs.YtiooindlpinjhaaDoor.sub s (2 ^ v) < s := by
  have hne : Go.Proofs.YtiooindlpinjhaaDoor.sub s (2 ^ v) ≠ s := fun e => by
    have h1 := sub_bit hs hv v
    rw [e, hb] at h1
    simp at h1
  exact Nat.lt_of_le_of_ne Nat.and_le_left hne
theorem bits_tail {s : Nat} (h0 : s ≠ 0) (hs : s < 65536) : bitsOf s = Lib.ctz 32 s :: bitsOf (Go.Proofs.YtiooindlpinjhaaDoor.sub s (2 ^ Lib.ctz 32 s)) := by
  obtain ⟨q1, q2, q3⟩ := testBit_ctz s h0 (by omega)
  have hv : Lib.ctz 32 s < 16 := bitsOf_lt16 hs ((mem_left hs).2 q1)
  rw [bitsOf_step s h0 (by omega)]
  refine congrArg _ (rising_ext _ _ (bitsOf_rising _) (bitsOf_rising _) fun x => ?_)
  rw [mem_left (and_lt16 _ _ hs), mem_left (sub_le s _ hs hv), sub_bit hs hv, testBit_drop_low s h0 (by omega)]
theorem bits_erase {s u : Nat} (hs : s < 65536) (hu : u < 16) : bitsOf (Go.Proofs.YtiooindlpinjhaaDoor.sub s (2 ^ u)) = (bitsOf s).erase u := by
  have hn := nodup_bits s
  refine rising_ext _ _ (bitsOf_rising _) ((bitsOf_rising s).sublist List.erase_sublist) fun x => ?_
  rw [mem_left (sub_le s u hs hu), sub_bit hs hu, List.Nodup.mem_erase_iff hn, mem_left hs]
  by_cases e : u = x
  · subst e; simp
  · have : x ≠ u := fun c => e c.symm
    simp [e, this]
/-- The size of a greatest matching within a set. -/
noncomputable def nuB (E : Nat → Nat → Bool) (s : Nat) : Nat := nuL E (bitsOf s)
theorem nuB_zero (E : Nat → Nat → Bool) : nuB E 0 = 0 := by unfold nuB; rw [bitsOf_zero, nu_nil]
theorem nuB_le (E : Nat → Nat → Bool) {s : Nat} (hs : s < 65536) : nuB E s ≤ 16 := by
  have h1 := nu_half E (nodup_bits s)
  have h2 := nodup_le 16 _ (nodup_bits s) fun i hi => bitsOf_lt16 hs hi
  unfold nuB
  omega
theorem nuB_step {E : Nat → Nat → Bool} (hsy : ∀ x y, E x y = true → E y x = true) {s t w : Nat} {n : Nat} (hn : n ≤ 16) (h0 : s ≠ 0) (hs : s < 65536) (ht : t = Go.Proofs.YtiooindlpinjhaaDoor.sub s (2 ^ Lib.ctz 32 s)) (hsn : ∀ i, s.testBit i = true → i < n) (hw16 : w < 65536) (hw : ∀ j, w.testBit j = (t.testBit j && (decide (j < n) && E (Lib.ctz 32 s) j))) :
    nuB E s = mxF (nuB E t) ((bitsOf w).map fun u => nuB E (Go.Proofs.YtiooindlpinjhaaDoor.sub t (2 ^ u))) := by
  obtain ⟨q1, q2, q3⟩ := testBit_ctz s h0 (by omega)
  have hv : Lib.ctz 32 s < 16 := bitsOf_lt16 hs ((mem_left hs).2 q1)
  have e := bits_tail h0 hs
  rw [← ht] at e
  have ht16 : t < 65536 := by rw [ht]; exact sub_le s _ hs hv
  have hnd := nodup_bits s
  rw [e] at hnd
  unfold nuB
  rw [e, nu_step hsy (W := bitsOf w) hnd fun u => ?_]
  · refine congrArg _ (List.map_congr_left fun u hu => ?_)
    rw [bits_erase ht16 (bitsOf_lt16 hw16 hu)]
  · rw [mem_left hw16, hw, mem_left ht16]
    simp only [Bool.and_eq_true, decide_eq_true_eq]
    refine ⟨fun h => ⟨h.1, h.2.2⟩, fun h => ⟨h.1, hsn u ?_, h.2⟩⟩
    have : u ∈ bitsOf s := by rw [e]; exact List.mem_cons_of_mem _ ((mem_left ht16).2 h.1)
    exact (mem_left hs).1 this

set_option maxRecDepth 100000 in
set_option maxHeartbeats 2000000 in
theorem mxClo_any (a : Nat) (l : List Nat) (lv : Value) (hl : l.length ≤ 32) (ha : a ≤ 100) (hlb : ∀ x ∈ l, x ≤ 99) (w : World) (hn : Nums w 2 .i64 lv (natInts l)) :
    Calls Tryd.prog 124 #[.int .i64 (a : Int), lv] w fun e w' => e = .returned (.int .i64 ((mxF a l : Nat) : Int)) ∧ w = w' := by
  obtain ⟨lp, lc, rfl, _⟩ := id hn.shape
  have HN := Lib.hid hn
  have hln := natInts_length l
  rw [hln]
  rw [hln] at HN
  have MB : Hid (∀ k, mxF a (l.take k) ≤ 100) := Lib.hid fun k => by
    rcases (mxF_spec (l.take k) a).2.2 with h | ⟨x, hx, h⟩
    · omega
    · have := hlb x (List.mem_of_mem_take hx)
      omega
  clear hn hln
  go_enter Tryd.func124, Tryd.ntmps124
  go_wp2
  go_loopw [0, 9] (fun av kv wr => ∃ k : Nat, k ≤ l.length ∧ kv = .int .i64 (k : Int) ∧ av = .int .i64 ((mxF a (l.take k) : Nat) : Int) ∧ wr = w) (fun _ kv _ => l.length - (intOf kv).toNat)
  case atStart => exact ⟨0, Nat.zero_le _, rfl, rfl, rfl⟩
  case round =>
    obtain ⟨k, hk, rfl, rfl, rfl⟩ := hrel
    by_cases hlt : k < l.length
    · obtain ⟨x, hx⟩ : ∃ x, x = l[k] := ⟨_, rfl⟩
      obtain ⟨lb, lo, hlp, hcell⟩ := HN.out.get (k := k) (by rw [natInts_length]; exact hlt)
      subst hlp
      have hcn : (natInts l)[k]'(by rw [natInts_length]; exact hlt) = ((x : Nat) : Int) := by rw [hx]; simp [natInts]
      rw [hcn] at hcell
      have hstep : mxF a (l.take (k + 1)) = max (mxF a (l.take k)) (x + 1) := by rw [take_snoc l k hlt, mxF_snoc, hx]
      have hb1 := MB.out k
      have hx99 := hlb x (by rw [hx]; exact List.getElem_mem hlt)
      obtain ⟨c1, hc1⟩ : ∃ c1, c1 = mxF a (l.take k) := ⟨_, rfl⟩
      obtain ⟨c2, hc2⟩ : ∃ c2, c2 = mxF a (l.take (k + 1)) := ⟨_, rfl⟩
      rw [← hc1] at hstep hb1 ⊢
      rw [← hc2] at hstep
      have HC2 := Lib.hid hc2
      have hmx : (if (c1 : Int) < (x : Int) + 1 then (x : Int) + 1 else (c1 : Int)) = (c2 : Int) := by split <;> omega
      have hki : (k : Int) < (l.length : Int) := by omega
      have hk0 : (0 : Int) ≤ (k : Int) := by omega
      have hwx : IntKind.i64.wrap ((x : Int) + 1) = (x : Int) + 1 := by rw [IntKind.wrap_i64]; omega
      clear hc1 hc2 hcn hx hstep
      go_wp2
      go_roundw
      case rel => exact ⟨k + 1, by omega, by go_num, by rw [← HC2.out], by first | trivial | rfl⟩
      case measure => simp [intOf]; omega
    · obtain rfl : k = l.length := by omega
      have HE : Hid (mxF a (l.take l.length) = mxF a l) := Lib.hid (by rw [List.take_length])
      rw [HE.out]
      go_wp2
      go_ret
      exact ⟨rfl, rfl⟩

end Go.Proofs.YtiooindlpinjhaaDoor
