/- Walks: the reference's l27Parts (odd parts), l25Less, l25Set. -/
import Derived.Test.YtiooindlpinjhaaDoorBaQ37
namespace Go.Proofs.YtiooindlpinjhaaDoor
open Go.RowKit

/-- What is gone through of the parts: s is left. -/
structure OdI (n : Nat) (E : Nat → Nat → Bool) (W s : Nat) (os : List (List Nat)) : Prop where
  s16 : s < 65536
  sub : ∀ i ∈ bitsOf s, i < n
  on : PartOn E (bitsOf W) os (bitsOf s)
  cnt : os.length + (bitsOf s).length ≤ 32
theorem OdI.step {n W s m : Nat} {E : Nat → Nat → Bool} {os : List (List Nat)} (h : OdI n E W s os) (h0 : s ≠ 0) (hm16 : m < 65536) (hm : ∀ i, m.testBit i = true ↔ Rch E (· ∈ bitsOf s) (Lib.ctz 32 s) i) :
    OdI n E W (Go.Proofs.YtiooindlpinjhaaDoor.sub s m) (os ++ [bitsOf m]) ∧ (bitsOf (Go.Proofs.YtiooindlpinjhaaDoor.sub s m)).length < (bitsOf s).length := by
  have hs := h.s16
  have e := bitsOf_step s h0 (by omega)
  obtain ⟨u, hu⟩ : ∃ u, u = Lib.ctz 32 s := ⟨_, rfl⟩
  rw [← hu] at e hm
  obtain ⟨L, hL⟩ : ∃ L, L = bitsOf (s &&& (s - 1)) := ⟨_, rfl⟩
  rw [← hL] at e
  have huL : u ∈ bitsOf s := by rw [e]; simp
  have h32 := sub_lt32 s m (by omega)
  have h16 : Go.Proofs.YtiooindlpinjhaaDoor.sub s m < 65536 := by
    have : Go.Proofs.YtiooindlpinjhaaDoor.sub s m < 2 ^ 16 := Nat.lt_pow_two_of_testBit _ fun j hj => by
      rw [testBit_sub _ _ (by omega) (by omega), Nat.testBit_lt_two_pow (Nat.lt_of_lt_of_le (show s < 2 ^ 16 by omega) (Nat.pow_le_pow_right (by decide) hj))]
      rfl
    omega
  have e1 : bitsOf m = partL E (u :: L) u := by
    rw [← e]
    refine rising_ext _ _ (bitsOf_rising _) (partL_rising (bitsOf_rising _) u) fun x => ?_
    rw [mem_left hm16, hm, mem_partL]
    exact ⟨fun h => ⟨rch_in (S := (· ∈ bitsOf s)) huL _ h, h⟩, fun h => h.2⟩
  have e2 : bitsOf (Go.Proofs.YtiooindlpinjhaaDoor.sub s m) = restL E (u :: L) u := by
    rw [← e]
    refine rising_ext _ _ (bitsOf_rising _) (restL_rising (bitsOf_rising _) u) fun x => ?_
    rw [mem_left h16, testBit_sub _ _ (by omega) (by omega), mem_restL, mem_left hs]
    simp only [Bool.and_eq_true, Bool.not_eq_true']
    refine and_congr_right fun _ => ?_
    rw [← hm]
    cases m.testBit x <;> simp
  have hon : PartOn E (bitsOf W) os (u :: L) := by rw [← e]; exact h.on
  have h3 := partOn_step hon
  have hlt : (bitsOf (Go.Proofs.YtiooindlpinjhaaDoor.sub s m)).length < (bitsOf s).length := by
    rw [e2, e]
    exact restL_lt (by simp)
  refine ⟨⟨h16, fun i hi => h.sub i ?_, by rw [e1, e2]; exact h3, ?_⟩, hlt⟩
  · rw [mem_left h16, testBit_sub _ _ (by omega) (by omega)] at hi
    rw [mem_left hs]
    simp only [Bool.and_eq_true] at hi
    exact hi.1
  · have := h.cnt
    rw [List.length_append, List.length_singleton]
    omega

set_option maxRecDepth 100000 in
set_option maxHeartbeats 4000000 in
theorem l27Parts_any (x : Value) (z : Int) (n : Nat) (E : Nat → Nat → Bool) (W : Nat) (hz : z = W) (hn : n ≤ 16) (hW : W < 65536) (hWn : ∀ i ∈ bitsOf W, i < n) (w : World) (hx : Sl w 2 x n ((indN n E).map i64v)) :
    Calls Tryd.prog 48 #[x, .int .i64 z] w fun e w' => ∃ m : Nat, e = .returned (.tuple #[.int .i64 (m : Int), .int .i64 ((oddK E (bitsOf W) : Nat) : Int)]) ∧ w = w' := by
  subst hz
  have START : Hid (OdI n E W W []) := Lib.hid ⟨hW, hWn, partOn_start _ _, by have := bitsOf_length W; simp; omega⟩
  have HX := Lib.hid hx
  clear hx hWn hW
  go_enter Tryd.func48, Tryd.ntmps48
  go_wp2_with fail
  go_loopw [1, 6, 7] (fun sv mv ov wr => ∃ (s : Nat) (os : List (List Nat)), sv = .int .i64 (s : Int) ∧ mv = .int .i64 (os.length : Int) ∧ ov = .int .i64 ((oddL os : Nat) : Int) ∧ Hid (OdI n E W s os) ∧ wr = w) (fun sv _ _ _ => (bitsOf (intOf sv).toNat).length)
  case atStart => exact ⟨W, [], rfl, rfl, rfl, START, rfl⟩
  case round =>
    clear START
    obtain ⟨s, os, rfl, rfl, rfl, HI, rfl⟩ := hrel
    have hs16 := HI.out.s16
    by_cases h0 : s = 0
    · have hp : Hid (Parts E (bitsOf W) os) := Lib.hid (partOn_stop (by have := HI.out.on; rw [h0, bitsOf_zero] at this; exact this))
      have hng : ¬ (0 : Int) < (s : Int) := by omega
      have HE := Lib.hid (oddK_eq hp.out)
      rw [← HE.out]
      clear h0
      go_wp2_with fail
      go_ret2
      exact ⟨⟨os.length, rfl⟩, rfl⟩
    · have hpos : (0 : Int) < (s : Int) := by omega
      have hpn : 0 < s := by omega
      obtain ⟨u, hu⟩ : ∃ u, u = Lib.ctz 32 s := ⟨_, rfl⟩
      have huL : u ∈ bitsOf s := by rw [bitsOf_step s h0 (by omega), hu]; simp
      have hun := HI.out.sub u huL
      have LOW : Hid (∀ wz, Calls Tryd.prog 119 #[.int .i64 (s : Int)] wz fun e w' => e = .returned (.int .i64 (u : Int)) ∧ wz = w') := Lib.hid fun wz => by
        have := l27Low_any (s : Int) s rfl h0 hs16 wz
        rw [← hu] at this
        refine this.mono ?_
        rintro e w' ⟨rfl, rfl⟩
        exact ⟨rfl, rfl⟩
      have HU := Lib.hid hu
      have H0 := Lib.hid h0
      have hol := oddL_le os
      have hcn := HI.out.cnt
      obtain ⟨o1, ho1⟩ : ∃ o1, o1 = oddL os := ⟨_, rfl⟩
      obtain ⟨c1, hc1⟩ : ∃ c1, c1 = os.length := ⟨_, rfl⟩
      rw [← ho1, ← hc1] at hol
      rw [← hc1] at hcn
      rw [← ho1, ← hc1]
      have HO1 := Lib.hid ho1
      have HC1 := Lib.hid hc1
      have hc32 : c1 ≤ 32 := by omega
      have ho32 : o1 ≤ 32 := by omega
      clear hu h0 ho1 hc1 hcn hol huL
      go_upto_region 5 with (first
        | (go_at_call 118; refine (l27Part_any _ _ _ n E u s rfl rfl hn hun hs16 HI.out.sub _ HX.out).mono ?_; rintro e w2 ⟨m, rfl, hm16, hm, hw⟩; subst hw; have HM := Lib.hid hm; clear hm)
        | (go_at_call 119; refine (LOW.out _).mono ?_; rintro e w2 ⟨rfl, hw⟩; subst hw))
      have HST := Lib.hid (HI.out.step H0.out hm16 (by rw [← HU.out]; exact HM.out))
      obtain ⟨pl, hpl⟩ : ∃ pl, pl = (bitsOf m).length := ⟨_, rfl⟩
      have hpl32 : pl ≤ 32 := by rw [hpl]; exact bitsOf_length m
      obtain ⟨r, hr⟩ : ∃ r, r = pl % 2 := ⟨_, rfl⟩
      have htm : Int.tmod (pl : Int) 2 = (r : Int) := by rw [hr]; exact (Int.ofNat_tmod pl 2).symm
      have hr1 : r ≤ 1 := by omega
      obtain ⟨t, ht⟩ : ∃ t, t = Go.Proofs.YtiooindlpinjhaaDoor.sub s m := ⟨_, rfl⟩
      have hand : bits BinOp.andNot IntKind.i64 (s : Int) (m : Int) = (t : Int) := by rw [ht]; exact i64_andNot_nat s m (by omega) (by omega)
      have HN1 : Hid (OdI n E W t (os ++ [bitsOf m])) := Lib.hid (by rw [ht]; exact HST.out.1)
      have HN2 : Hid ((bitsOf t).length < (bitsOf s).length) := Lib.hid (by rw [ht]; exact HST.out.2)
      have HN3 : Hid ((os ++ [bitsOf m]).length = c1 + 1) := Lib.hid (by rw [List.length_append, List.length_singleton, ← HC1.out])
      have HN4 : Hid (oddL (os ++ [bitsOf m]) = o1 + r) := Lib.hid (by rw [oddL_snoc, ← HO1.out, hr, hpl])
      have MANY : Hid (∀ wz, Calls Tryd.prog 49 #[.int .i64 (m : Int)] wz fun e w' => e = .returned (.int .i64 (pl : Int)) ∧ wz = w') := Lib.hid fun wz => by
        rw [hpl]
        refine (l25Many_any (m : Int) m rfl hm16 wz).mono ?_
        rintro e w' ⟨rfl, rfl⟩
        exact ⟨rfl, rfl⟩
      clear hpl hr ht HST HM
      go_wp2_with (go_at_call 49; refine (MANY.out _).mono ?_; rintro e w2 ⟨rfl, hw⟩; subst hw)
      go_roundw
      case rel => exact ⟨t, _, rfl, by rw [HN3.out]; go_num, by rw [HN4.out]; go_num, HN1, by first | trivial | rfl⟩
      case measure => have := HN2.out; simpa [intOf] using this

/-! ### The lowest of the bits in which two sets differ -/
theorem bits_xor_i64 (a b : Nat) (ha : a < 65536) (hb : b < 65536) : bits BinOp.xor IntKind.i64 (a : Int) (b : Int) = ((a ^^^ b : Nat) : Int) := by
  have e1 : (BitVec.ofInt 64 (a : Int)).toNat = a := by rw [BitVec.ofInt_natCast, BitVec.toNat_ofNat]; omega
  have e2 : (BitVec.ofInt 64 (b : Int)).toNat = b := by rw [BitVec.ofInt_natCast, BitVec.toNat_ofNat]; omega
  have hx : a ^^^ b < 2 ^ 16 := Nat.xor_lt_two_pow (by omega) (by omega)
  show IntKind.i64.wrap ((BitVec.ofInt 64 (a : Int) ^^^ BitVec.ofInt 64 (b : Int)).toNat : Int) = _
  rw [BitVec.toNat_xor, e1, e2, IntKind.wrap_i64]
  omega
/-- d & -d -/
def lowBa (d : Nat) : Nat := if d = 0 then 0 else 2 ^ Lib.ctz 32 d
theorem bits_low_i64 (d : Nat) (hd : d < 65536) : bits BinOp.and IntKind.i64 (d : Int) (-(d : Int)) = ((lowBa d : Nat) : Int) := by
  by_cases h0 : d = 0
  · subst h0; rfl
  obtain ⟨q1, q2, q3⟩ := testBit_ctz d h0 (by omega)
  have hdl := fun j => testBit_drop_low d h0 (by omega) (j := j)
  obtain ⟨q, hq⟩ : ∃ q, q = Lib.ctz 32 d := ⟨_, rfl⟩
  unfold lowBa
  rw [if_neg h0]
  rw [← hq] at q1 q2 q3 hdl ⊢
  have hq16 : q < 16 := Nat.lt_of_not_le fun hge => by
    rw [Nat.testBit_lt_two_pow (Nat.lt_of_lt_of_le (show d < 2 ^ 16 by omega) (Nat.pow_le_pow_right (by decide) hge))] at q1
    cases q1
  have e1 : (BitVec.ofInt 64 (d : Int)).toNat = d := by rw [BitVec.ofInt_natCast, BitVec.toNat_ofNat]; omega
  have e2 : (BitVec.ofInt 64 (-(d : Int))).toNat = 2 ^ 64 - d := by
    rw [BitVec.toNat_ofInt]
    omega
  have e3 : d &&& (2 ^ 64 - d) = 2 ^ q := Nat.eq_of_testBit_eq fun j => by
    rw [Nat.testBit_and, show 2 ^ 64 - d = 2 ^ 64 - (d - 1 + 1) by omega, Nat.testBit_two_pow_sub_succ (show d - 1 < 2 ^ 64 by omega), testBit_pow]
    have h4 := hdl j
    rw [Nat.testBit_and] at h4
    by_cases hj : d.testBit j = true
    · have hj64 : j < 64 := Nat.lt_of_not_le fun hge => by
        rw [Nat.testBit_lt_two_pow (Nat.lt_of_lt_of_le (show d < 2 ^ 64 by omega) (Nat.pow_le_pow_right (by decide) hge))] at hj
        cases hj
      rw [hj] at h4 ⊢
      simp only [Bool.true_and] at h4 ⊢
      rw [h4]
      simp [hj64]
    · have hjf : d.testBit j = false := by simpa using hj
      rw [hjf]
      have : ¬ q = j := fun e => by rw [e, hjf] at q1; cases q1
      simp [this]
  show IntKind.i64.wrap ((BitVec.ofInt 64 (d : Int) &&& BitVec.ofInt 64 (-(d : Int))).toNat : Int) = _
  rw [BitVec.toNat_and, e1, e2, e3, IntKind.wrap_i64]
  have := pow_lt16 q hq16
  omega
theorem lowBa_lt (d : Nat) (hd : d < 65536) : lowBa d < 65536 := by
  unfold lowBa
  split
  · omega
  · rename_i h0
    obtain ⟨q1, q2, q3⟩ := testBit_ctz d h0 (by omega)
    refine pow_lt16 _ (Nat.lt_of_not_le fun hge => ?_)
    rw [Nat.testBit_lt_two_pow (Nat.lt_of_lt_of_le (show d < 2 ^ 16 by omega) (Nat.pow_le_pow_right (by decide) hge))] at q1
    cases q1
/-- What l25Less tells. -/
theorem low_less {a b : Nat} (ha : a < 65536) (hb : b < 65536) (hlen : (bitsOf a).length = (bitsOf b).length) : (a &&& lowBa (a ^^^ b) ≠ 0) ↔ lexL (bitsOf a) (bitsOf b) := by
  have hx : a ^^^ b < 2 ^ 16 := Nat.xor_lt_two_pow (by omega) (by omega)
  by_cases h0 : a ^^^ b = 0
  · have e : a = b := by
      refine Nat.eq_of_testBit_eq fun j => ?_
      have : (a ^^^ b).testBit j = false := by rw [h0]; exact Nat.zero_testBit j
      rw [Nat.testBit_xor] at this
      simpa using this
    subst e
    simp only [lowBa, h0, if_true, Nat.and_zero, ne_eq, not_true, false_iff]
    exact lexL_irrefl _
  · obtain ⟨q1, q2, q3⟩ := testBit_ctz (a ^^^ b) h0 (by omega)
    unfold lowBa
    rw [if_neg h0]
    generalize Lib.ctz 32 (a ^^^ b) = q at *
    rw [lex_low ha hb (q := q) (fun j hj => by
      have := q3 j hj
      rw [Nat.testBit_xor] at this
      simpa using this) (fun e => by rw [Nat.testBit_xor, e] at q1; simp at q1) hlen]
    constructor
    · intro h
      refine Classical.byContradiction fun hn => h ?_
      refine Nat.eq_of_testBit_eq fun j => ?_
      rw [Nat.testBit_and, testBit_pow, Nat.zero_testBit]
      by_cases e : q = j
      · subst e; simp at hn; simp [hn]
      · simp [e]
    · intro h e
      have : (a &&& 2 ^ q).testBit q = true := by rw [Nat.testBit_and, testBit_pow, h]; simp
      rw [e, Nat.zero_testBit] at this
      cases this

set_option maxRecDepth 100000 in
set_option maxHeartbeats 1000000 in
theorem l25Less_any (y z : Int) (a b : Nat) (hy : y = a) (hz : z = b) (ha : a < 65536) (hb : b < 65536) (hlen : (bitsOf a).length = (bitsOf b).length) (w : World) :
    Calls Tryd.prog 50 #[.int .i64 y, .int .i64 z] w fun e w' => e = .returned (.bool (dec (lexL (bitsOf a) (bitsOf b)))) ∧ w = w' := by
  subst hy; subst hz
  obtain ⟨d, hd⟩ : ∃ d, d = a ^^^ b := ⟨_, rfl⟩
  have hx : a ^^^ b < 2 ^ 16 := Nat.xor_lt_two_pow (by omega) (by omega)
  have hd16 : d < 65536 := by rw [hd]; omega
  have h1 : bits BinOp.xor IntKind.i64 (a : Int) (b : Int) = (d : Int) := by rw [hd]; exact bits_xor_i64 a b ha hb
  obtain ⟨q, hq⟩ : ∃ q, q = lowBa d := ⟨_, rfl⟩
  have h2 : bits BinOp.and IntKind.i64 (d : Int) (-(d : Int)) = (q : Int) := by rw [hq]; exact bits_low_i64 d hd16
  have hq16 : q < 65536 := by rw [hq]; exact lowBa_lt d hd16
  obtain ⟨r, hr⟩ : ∃ r, r = a &&& q := ⟨_, rfl⟩
  have h3 : bits BinOp.and IntKind.i64 (a : Int) (q : Int) = (r : Int) := by rw [hr]; exact i64_and_nat a q (by omega) (by omega)
  have hwn : IntKind.i64.wrap (-(d : Int)) = -(d : Int) := by rw [IntKind.wrap_i64]; omega
  have HR : Hid ((((r : Nat) : Int) != 0) = dec (lexL (bitsOf a) (bitsOf b))) := Lib.hid (by
    have := low_less ha hb hlen
    rw [← hd, ← hq, ← hr] at this
    by_cases h : lexL (bitsOf a) (bitsOf b)
    · rw [dec_true h]; simpa using this.2 h
    · rw [dec_false h]
      have h4 : r = 0 := Classical.byContradiction fun c => h (this.1 c)
      rw [h4]; rfl)
  clear hd hq hr hx hlen
  go_enter Tryd.func50, Tryd.ntmps50
  go_wp2
  go_ret
  exact ⟨ret_bool HR.out, rfl⟩

end Go.Proofs.YtiooindlpinjhaaDoor
