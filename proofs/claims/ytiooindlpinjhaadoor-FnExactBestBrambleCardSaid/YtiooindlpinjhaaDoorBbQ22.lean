/- Walks: the reference's l27Parts (odd parts), l25Less, l25Set. -/
import Derived.Test.YtiooindlpinjhaaDoorBbQ21
namespace Go.Proofs.YtiooindlpinjhaaDoor
open Go.RowKit

/-- What is gone through of the parts: s is left. -/
structure OdI (n : Nat) (E : Nat → Nat → Bool) (W s : Nat) (os : List (List Nat)) : Prop where
  s16 : s < 65536
  sub : ∀ i ∈ bitsOf s, i < n
  on : PartOn E (bitsOf W) os (bitsOf s)
  cnt : os.length + (bitsOf s).length ≤ 32
theorem OdI.step {n W s m : Nat} {E : Nat → Nat → Bool} {os : List (List Nat)} (h : OdI n E W s os) (h0 : s ≠ 0) (hm16 : m < 65536) (hm : ∀ i, m.testBit i = true ↔ Rch E (· ∈ bitsOf s) (Lib.ctz 32 s) i) :
    OdI n E W (Go.Proofs.YtiooindlpinjhaaDoor.sub s m) (os ++ [bitsOf m]) ∧ (bitsOf (Go.Proofs.YtiooindlpinjhaaDoor.sub s m)).length < (bitsOf s).length := by
  have hs := h.s16
  have e := bitsOf_step s h0 (by omega)
  obtain ⟨u, hu⟩ : ∃ u, u = Lib.ctz 32 s := ⟨_, rfl⟩
  rw [← hu] at e hm
  obtain ⟨L, hL⟩ : ∃ L, L = bitsOf (s &&& (s - 1)) := ⟨_, rfl⟩
  rw [← hL] at e
  have huL : u ∈ bitsOf s := by rw [e]; simp
  have h32 := sub_lt32 s m (by omega)
  have h16 : Go.Proofs.YtiooindlpinjhaaDoor.sub s m < 65536 := by
    have : Go.Proofs.YtiooindlpinjhaaDoor.sub s m < 2 ^ 16 := Nat.lt_pow_two_of_testBit _ fun j hj => by
      rw [testBit_sub _ _ (by omega) (by omega), Nat.testBit_lt_two_pow (Nat.lt_of_lt_of_le (show s < 2 ^ 16 by omega) (Nat.pow_le_pow_right (by decide) hj))]
      rfl
    omega
  have e1 : bitsOf m = partL E (u :: L) u := by
    rw [← e]
    refine rising_ext _ _ (bitsOf_rising _) (partL_rising (bitsOf_rising _) u) fun x => ?_
    rw [mem_left hm16, hm, mem_partL]
    exact ⟨fun h => ⟨rch_in (S := (· ∈ bitsOf s)) huL _ h, h⟩, fun h => h.2⟩
  have e2 : bitsOf (Go.Proofs.YtiooindlpinjhaaDoor.sub s m) = restL E (u :: L) u := by
    rw [← e]
    refine rising_ext _ _ (bitsOf_rising _) (restL_rising (bitsOf_rising _) u) fun x => ?_
    rw [mem_left h16, testBit_sub _ _ (by omega) (by omega), mem_restL, mem_left hs]
    simp only [Bool.and_eq_true, Bool.not_eq_true']
    refine and_congr_right fun _ => ?_
    rw [← hm]
    cases m.testBit x <;> simp
  have hon : PartOn E (bitsOf W) os (u :: L) := by rw [← e]; exact h.on
  have h3 := partOn_step hon
  have hlt : (bitsOf (Go.Proofs.YtiooindlpinjhaaDoor.sub s m)).length < (bitsOf s).length := by
    rw [e2, e]
    exact restL_lt (by simp)
  refine ⟨⟨h16, fun i hi => h.sub i ?_, by rw [e1, e2]; exact h3, ?_⟩, hlt⟩
  · rw [mem_left h16, testBit_sub _ _ (by omega) (by omega)] at hi
    rw [mem_left hs]
    simp only [Bool.and_eq_true] at hi
    exact hi.1
  · have := h.cnt
    rw [List.length_append, List.length_singleton]
    omega

set_option maxRecDepth 100000 in
set_option maxHeartbeats 4000000 in
theorem l27Parts_any (x : Value) (z : Int) (n : Nat) (E : Nat → Nat → Bool) (W : Nat) (hz : z = W) (hn : n ≤ 16) (hW : W < 65536) (hWn : ∀ i ∈ bitsOf W, i < n) (w : World) (hx : Sl w 2 x n ((indN n E).map i64v)) :
    Calls Tryd.prog 48 #[x, .int .i64 z] w fun e w' => ∃ m : Nat, e = .returned (.tuple #[.int .i64 (m : Int), .int .i64 ((oddK E (bitsOf W) : Nat) : Int)]) ∧ w = w' := by
  subst hz
  have START : Hid (OdI n E W W []) := Lib.hid ⟨hW, hWn, partOn_start _ _, by have := bitsOf_length W; simp; omega⟩
  have HX := Lib.hid hx
  clear hx hWn hW
  go_enter Tryd.func48, Tryd.ntmps48
  go_wp2_with fail
  go_loopw [1, 6, 7] (fun sv mv ov wr => ∃ (s : Nat) (os : List (List Nat)), sv = .int .i64 (s : Int) ∧ mv = .int .i64 (os.length : Int) ∧ ov = .int .i64 ((oddL os : Nat) : Int) ∧ Hid (OdI n E W s os) ∧ wr = w) (fun sv _ _ _ => (bitsOf (intOf sv).toNat).length)
  case atStart => exact ⟨W, [], rfl, rfl, rfl, START, rfl⟩
  case round =>
    clear START
    obtain ⟨s, os, rfl, rfl, rfl, HI, rfl⟩ := hrel
    have hs16 := HI.out.s16
    by_cases h0 : s = 0
    · have hp : Hid (Parts E (bitsOf W) os) := Lib.hid (partOn_stop (by have := HI.out.on; rw [h0, bitsOf_zero] at this; exact this))
      have hng : ¬ (0 : Int) < (s : Int) := by omega
      have HE := Lib.hid (oddK_eq hp.out)
      rw [← HE.out]
      clear h0
      go_wp2_with fail
      go_ret2
      exact ⟨⟨os.length, rfl⟩, rfl⟩
    · have hpos : (0 : Int) < (s : Int) := by omega
      have hpn : 0 < s := by omega
      obtain ⟨u, hu⟩ : ∃ u, u = Lib.ctz 32 s := ⟨_, rfl⟩
      have huL : u ∈ bitsOf s := by rw [bitsOf_step s h0 (by omega), hu]; simp
      have hun := HI.out.sub u huL
      have LOW : Hid (∀ wz, Calls Tryd.prog 119 #[.int .i64 (s : Int)] wz fun e w' => e = .returned (.int .i64 (u : Int)) ∧ wz = w') := Lib.hid fun wz => by
        have := l27Low_any (s : Int) s rfl h0 hs16 wz
        rw [← hu] at this
        refine this.mono ?_
        rintro e w' ⟨rfl, rfl⟩
        exact ⟨rfl, rfl⟩
      have HU := Lib.hid hu
      have H0 := Lib.hid h0
      have hol := oddL_le os
      have hcn := HI.out.cnt
      obtain ⟨o1, ho1⟩ : ∃ o1, o1 = oddL os := ⟨_, rfl⟩
      obtain ⟨c1, hc1⟩ : ∃ c1, c1 = os.length := ⟨_, rfl⟩
      rw [← ho1, ← hc1] at hol
      rw [← hc1] at hcn
      rw [← ho1, ← hc1]
      have HO1 := Lib.hid ho1
      have HC1 := Lib.hid hc1
      have hc32 : c1 ≤ 32 := by omega
      have ho32 : o1 ≤ 32 := by omega
      clear hu h0 ho1 hc1 hcn hol huL
      go_upto_region 5 with (first
        | (go_at_call 118; refine (l27Part_any _ _ _ n E u s rfl rfl hn hun hs16 HI.out.sub _ HX.out).mono ?_; rintro e w2 ⟨m, rfl, hm16, hm, hw⟩; subst hw; have HM := Lib.hid hm; clear hm)
        | (go_at_call 119; refine (LOW.out _).mono ?_; rintro e w2 ⟨rfl, hw⟩; subst hw))
      have HST := Lib.hid (HI.out.step H0.out hm16 (by rw [← HU.out]; exact HM.out))
      obtain ⟨pl, hpl⟩ : ∃ pl, pl = (bitsOf m).length := ⟨_, rfl⟩
      have hpl32 : pl ≤ 32 := by rw [hpl]; exact bitsOf_length m
      obtain ⟨r, hr⟩ : ∃ r, r = pl % 2 := ⟨_, rfl⟩
      have htm : Int.tmod (pl : Int) 2 = (r : Int) := by rw [hr]; exact (Int.ofNat_tmod pl 2).symm
      have hr1 : r ≤ 1 := by omega
      obtain ⟨t, ht⟩ : ∃ t, t = Go.Proofs.YtiooindlpinjhaaDoor.sub s m := ⟨_, rfl⟩
      have hand : bits BinOp.andNot IntKind.i64 (s : Int) (m : Int) = (t : Int) := by rw [ht]; exact i64_andNot_nat s m (by omega) (by omega)
      have HN1 : Hid (OdI n E W t (os ++ [bitsOf m])) := Lib.hid (by rw [ht]; exact HST.out.1)
      have HN2 : Hid ((bitsOf t).length < (bitsOf s).length) := Lib.hid (by rw [ht]; exact HST.out.2)
      have HN3 : Hid ((os ++ [bitsOf m]).length = c1 + 1) := Lib.hid (by rw [List.length_append, List.length_singleton, ← HC1.out])
      have HN4 : Hid (oddL (os ++ [bitsOf m]) = o1 + r) := Lib.hid (by rw [oddL_snoc, ← HO1.out, hr, hpl])
      have MANY : Hid (∀ wz, Calls Tryd.prog 49 #[.int .i64 (m : Int)] wz fun e w' => e = .returned (.int .i64 (pl : Int)) ∧ wz = w') := Lib.hid fun wz => by
        rw [hpl]
        refine (l25Many_any (m : Int) m rfl hm16 wz).mono ?_
        rintro e w' ⟨rfl, rfl⟩
        exact ⟨rfl, rfl⟩
      clear hpl hr ht HST HM
      go_wp2_with (go_at_call 49; refine (MANY.out _).mono ?_; rintro e w2 ⟨rfl, hw⟩; subst hw)
      go_roundw
      case rel => exact ⟨t, _, rfl, by rw [HN3.out]; go_num, by rw [HN4.out]; go_num, HN1, by first | trivial | rfl⟩
      case measure => have := HN2.out; simpa [intOf] using this

/-! ### The lowest of the bits in which two sets differ -/
theorem bits_xor_i64 (a b : Nat) (ha : a < 65536) (hb : b < 65536) : bits BinOp.xor IntKind.i64 (a : Int) (b : Int) = ((a ^^^ b : Nat) : Int) := by
  have e1 : (BitVec.ofInt 64 (a : Int)).toNat = a := by rw [BitVec.ofInt_natCast, BitVec.toNat_ofNat]; omega
  have e2 : (BitVec.ofInt 64 (b : Int)).toNat = b := by rw [BitVec.ofInt_natCast, BitVec.toNat_ofNat]; omega
  have hx : a ^^^ b < 2 ^ 16 := Nat.xor_lt_two_pow (by omega) (by omega)
  show IntKind.i64.wrap ((BitVec.ofInt 64 (a : Int) ^^^ BitVec.ofInt 64 (b : Int)).toNat : Int) = _
  rw [BitVec.toNat_xor, e1, e2, IntKind.wrap_i64]
  omega
/-- d & -d -/
def lowBa (d : Nat) : Nat := if d = 0 then 0 else 2 ^ Lib.ctz 32 d
theorem bits_low_i64 (d : Nat) (hd : d < 65536) : bits BinOp.and IntKind.i64 (d : Int) (-(d : Int)) = ((lowBa d : Nat) : Int) := by
  by_cases h0 : d = 0
  · subst h0; rfl
  obtain ⟨q1, q2, q3⟩ := testBit_ctz d h0 (by omega)
  have hdl := fun j => testBit_drop_low d h0 (by omega) (j := j)
  obtain ⟨q, hq⟩ : ∃ q, q = Lib.ctz 32 d := ⟨_, rfl⟩
  unfold lowBa
  rw [if_neg h0]
  rw [← hq] at q1 q2 q3 hdl ⊢
  have hq16 : q < 16 := Nat.lt_of_not_le fun hge => by
    rw [Nat.testBit_lt_two_pow (Nat.lt_of_lt_of_le (show d < 2 ^ 16 by omega) (Nat.pow_le_pow_right (by decide) hge))] at q1
    cases q1
  have e1 : (BitVec.ofInt 64 (d : Int)).toNat = d := by rw [BitVec.ofInt_natCast, BitVec.toNat_ofNat]; omega
  have e2 : (BitVec.ofInt 64 (-(d : Int))).toNat = 2 ^ 64 - d := by
    rw [BitVec.toNat_ofInt]
    omega
  have e3 : d &&& (2 ^ 64 - d) = 2 ^ q := Nat.eq_of_testBit_eq fun j => by
    rw [Nat.testBit_and, show 2 ^ 64 - d = 2 ^ 64 - (d - 1 + 1) by omega, Nat.testBit_two_pow_sub_succ (show d - 1 < 2 ^ 64 by omega), testBit_pow]
    have h4 := hdl j
    rw [Nat.testBit_and] at h4
    by_cases hj : d.testBit j = true
    · have hj64 : j < 64 := Nat.lt_of_not_le fun hge => by
        rw [Nat.testBit_lt_two_pow (Nat.lt_of_lt_of_le (show d < 2 ^ 64 by omega) (Nat.pow_le_pow_right (by decide) hge))] at hj
        cases hj
      rw [hj] at h4 ⊢
      simp only [Bool.true_and] at h4 ⊢
      rw [h4]
      simp [hj64]
    · have hjf : d.testBit j = false := by simpa using hj
      rw [hjf]
      have : ¬ q = j := fun e => by rw [e, hjf] at q1; cases q1
      simp [this]
  show IntKind.i64.wrap ((BitVec.ofInt 64 (d : Int) &&& BitVec.ofInt 64 (-(d : Int))).toNat : Int) = _
  rw [BitVec.toNat_and, e1, e2, e3, IntKind.wrap_i64]
  have := pow_lt16 q hq16
  omega
theorem lowBa_lt (d : Nat) (hd : d < 65536) : lowBa d < 65536 := by
  unfold lowBa
  split
  · omega
  · rename_i h0
    obtain ⟨q1, q2, q3⟩ := testBit_ctz d h0 (by omega)
    refine pow_lt16 _ (Nat.lt_of_not_le fun hge => ?_)
    rw [Nat.testBit_lt_two_pow (Nat.lt_of_lt_of_le (show d < 2 ^ 16 by omega) (Nat.pow_le_pow_right (by decide) hge))] at q1
    cases q1
/-- What l25Less tells. -/
theorem low_less {a b : Nat} (ha : a < 65536) (hb : b < 65536) (hlen : (bitsOf a).length = (bitsOf b).length) : (a &&& lowBa (a ^^^ b) ≠ 0) ↔ lexL (bitsOf a) (bitsOf b) := by
  have hx : a ^^^ b < 2 ^ 16 := Nat.xor_lt_two_pow (by omega) (by omega)
  by_cases h0 : a ^^^ b = 0
  · have e : a = b := by
      refine Nat.eq_of_testBit_eq fun j => ?_
      have : (a ^^^ b).testBit j = false := by rw [h0]; exact Nat.zero_testBit j
      rw [Nat.testBit_xor] at this
      simpa using this
    subst e
    simp only [lowBa, h0, if_true, Nat.and_zero, ne_eq, not_true, false_iff]
    exact lexL_irrefl _
  · obtain ⟨q1, q2, q3⟩ := testBit_ctz (a ^^^ b) h0 (by omega)
    unfold lowBa
    rw [if_neg h0]
    generalize Lib.ctz 32 (a ^^^ b) = q at *
    rw [lex_low ha hb (q := q) (fun j hj => by
      have := q3 j hj
      rw [Nat.testBit_xor] at this
      simpa using this) (fun e => by rw [Nat.testBit_xor, e] at q1; simp at q1) hlen]
    constructor
    · intro h
      refine Classical.byContradiction fun hn => h ?_
      refine Nat.eq_of_testBit_eq fun j => ?_
      rw [Nat.testBit_and, testBit_pow, Nat.zero_testBit]
      by_cases e : q = j
      · subst e; simp at hn; simp [hn]
      · simp [e]
    · intro h e
      have : (a &&& 2 ^ q).testBit q = true := by rw [Nat.testBit_and, testBit_pow, h]; simp
      rw [e, Nat.zero_testBit] at this
      cases this

set_option maxRecDepth 100000 in
set_option maxHeartbeats 1000000 in
theorem l25Less_any (y z : Int) (a b : Nat) (hy : y = a) (hz : z = b) (ha : a < 65536) (hb : b < 65536) (hlen : (bitsOf a).length = (bitsOf b).length) (w : World) :
    Calls Tryd.prog 50 #[.int .i64 y, .int .i64 z] w fun e w' => e = .returned (.bool (dec (lexL (bitsOf a) (bitsOf b)))) ∧ w = w' := by
  subst hy; subst hz
  obtain ⟨d, hd⟩ : ∃ d, d = a ^^^ b := ⟨_, rfl⟩
  have hx : a ^^^ b < 2 ^ 16 := Nat.xor_lt_two_pow (by omega) (by omega)
  have hd16 : d < 65536 := by rw [hd]; omega
  have h1 : bits BinOp.xor IntKind.i64 (a : Int) (b : Int) = (d : Int) := by rw [hd]; exact bits_xor_i64 a b ha hb
  obtain ⟨q, hq⟩ : ∃ q, q = lowBa d := ⟨_, rfl⟩
  have h2 : bits BinOp.and IntKind.i64 (d : Int) (-(d : Int)) = (q : Int) := by rw [hq]; exact bits_low_i64 d hd16
  have hq16 : q < 65536 := by rw [hq]; exact lowBa_lt d hd16
  obtain ⟨r, hr⟩ : ∃ r, r = a &&& q := ⟨_, rfl⟩
  have h3 : bits BinOp.and IntKind.i64 (a : Int) (q : Int) = (r : Int) := by rw [hr]; exact i64_and_nat a q (by omega) (by omega)
  have hwn : IntKind.i64.wrap (-(d : Int)) = -(d : Int) := by rw [IntKind.wrap_i64]; omega
  have HR : Hid ((((r : Nat) : Int) != 0) = dec (lexL (bitsOf a) (bitsOf b))) := Lib.hid (by
    have := low_less ha hb hlen
    rw [← hd, ← hq, ← hr] at this
    by_cases h : lexL (bitsOf a) (bitsOf b)
    · rw [dec_true h]; simpa using this.2 h
    · rw [dec_false h]
      have h4 : r = 0 := Classical.byContradiction fun c => h (this.1 c)
      rw [h4]; rfl)
  clear hd hq hr hx hlen
  go_enter Tryd.func50, Tryd.ntmps50
  go_wp2
  go_ret
  exact ⟨ret_bool HR.out, rfl⟩

end Go.Proofs.YtiooindlpinjhaaDoor

/- Walk: the program's onSets at mostEdges. -/
namespace Go.Proofs.YtiooindlpinjhaaDoor
open Go.RowKit

theorem own64_set {w : World} {base kb n : Nat} {D : List Int} (h : w.ownsRow base 2 1 (.slice (some ⟨kb, 0, none⟩) n n) n (D.map (Value.int .i64))) (u : Nat) (f : Int) : (w.setCell ⟨kb, u, none⟩ (.int .i64 f)).ownsRow base 2 1 (.slice (some ⟨kb, 0, none⟩) n n) n ((D.set u f).map (Value.int .i64)) := by
  have := (h.stored u (.int .i64 f)).1
  rwa [← List.map_set] at this
theorem own64_at {w : World} {base kb n : Nat} {D : List Int} (h : w.ownsRow base 2 1 (.slice (some ⟨kb, 0, none⟩) n n) n (D.map (Value.int .i64))) (hD : D.length = n) {u : Nat} (hu : u < n) : w.cell? ⟨kb, u, none⟩ = some (.int .i64 (D.getD u 0)) := by
  rw [h.cellAt u (by omega), List.getElem?_map, List.getElem?_eq_getElem (by omega), List.getD_eq_getElem?_getD, List.getElem?_eq_getElem (by omega)]
  rfl
theorem natInts_snocBa (l : List Nat) (x : Nat) : natInts (l ++ [x]) = natInts l ++ [(x : Int)] := by simp [natInts]
/-- The table, filled below s. -/
structure TbI (w wr : World) (E : Nat → Nat → Bool) (kb N s : Nat) (D : List Int) : Prop where
  len : D.length = N
  val : ∀ t, t < s → D.getD t 0 = (nuB E t : Int)
  own : wr.ownsRow w.heap.size 2 1 (.slice (some ⟨kb, 0, none⟩) N N) N (D.map (Value.int .i64))
  bel : Below w.heap.size w wr
theorem TbI.next {w wr wx : World} {E : Nat → Nat → Bool} {kb N s : Nat} {D : List Int} (h : TbI w wr E kb N s D) (hb : Below wr.heap.size wr wx) : TbI w wx E kb N s D :=
  ⟨h.len, h.val, ownsRow_below h.own hb, h.bel.trans (hb.mono h.bel.size)⟩
theorem TbI.put {w wr : World} {E : Nat → Nat → Bool} {kb N s : Nat} {D : List Int} (h : TbI w wr E kb N s D) (hs : s < N) {f : Int} (hf : f = (nuB E s : Int)) : TbI w (wr.setCell ⟨kb, s, none⟩ (.int .i64 f)) E kb N (s + 1) (D.set s f) where
  len := by rw [List.length_set, h.len]
  val t ht := by
    have hl := h.len
    by_cases e : t = s
    · subst e
      rw [List.getD_eq_getElem?_getD, List.getElem?_set_self (by omega)]
      exact hf
    · rw [List.getD_eq_getElem?_getD, List.getElem?_set_ne (fun c => e c.symm), ← List.getD_eq_getElem?_getD]
      exact h.val t (by omega)
  own := own64_set h.own s f
  bel := h.bel.setCell (p := ⟨kb, s, none⟩) (h.own.lt kb rfl).1 _

set_option maxRecDepth 100000 in
set_option maxHeartbeats 8000000 in
theorem onSets_any (xp : Option Addr) (xc n N : Nat) (E : Nat → Nat → Bool) (hN : N = 2 ^ n) (hsy : ∀ x y, E x y = true → E y x = true) (w : World) (hx : NE w (.slice xp n xc) n E) (hT : Tab w) :
    Calls Tryd.prog 123 #[.slice xp n xc, .int .i64 0, .func (.func 124) #[] #[]] w fun e w' => ∃ (kb : Nat) (D : List Int), e = .returned (.slice (some ⟨kb, 0, none⟩) N N) ∧ TbI w w' E kb N N D := by
  have n16 := hx.le
  have HNE := Lib.hid hx
  have HT := Lib.hid hT
  have HSY := Lib.hid hsy
  clear hx hT hsy
  obtain ⟨M, hM⟩ : ∃ M, M = 2 ^ n - 1 := ⟨_, rfl⟩
  have h3 : 0 < 2 ^ n := Nat.two_pow_pos n
  have hNM : N = M + 1 := by omega
  have hN16 : N ≤ 65536 := by
    have h2 : 2 ^ n ≤ 2 ^ 16 := Nat.pow_le_pow_right (by decide) n16
    omega
  have HM := Lib.hid hM
  have HNN := Lib.hid hN
  have HNM := Lib.hid hNM
  have hwN : IntKind.u32.wrap ((M : Int) + 1) = (N : Int) := by rw [IntKind.wrap_u32]; omega
  have ALL : Hid (∀ (wz : World), Calls Tryd.prog 56 #[.slice xp n xc] wz fun e w' => e = .returned (.int .u32 (M : Int)) ∧ wz = w') := Lib.hid fun wz => all_any' xp n xc M (by omega) HM.out wz
  have hN1 : 0 < N := by omega
  have hMl : M < N := by omega
  clear hM hN hNM h3
  go_enter Tryd.func123, Tryd.ntmps123
  go_upto_region 2 with (first
    | (at_make; refine wpList_mk ty_i64 rfl rfl rfl N rfl rfl (by rfl) (by rfl) (by omega) ?_; intro w1 hown1 hg1)
    | (go_at_call 56; refine (ALL.out _).mono ?_; rintro e w0 ⟨rfl, rfl⟩))
  obtain ⟨kb, hkb⟩ : ∃ kb, kb = w.heap.size := ⟨_, rfl⟩
  have HT1 : Hid (TbI w w1 E kb N 0 (List.replicate N 0)) := Lib.hid ⟨by simp, fun t h => by omega, by rw [List.map_replicate, hkb]; exact hown1, grown_below hg1⟩
  rw [← hkb]
  have hc0 := own64_at HT1.out.own HT1.out.len hN1
  have hf0 := HT1.out.own.frozenAt 0
  have HT2 := Lib.hid (HT1.out.put (s := 0) hN1 (f := 0) (by rw [nuB_zero]; rfl))
  have hg0 : (List.replicate N (0 : Int)).getD 0 0 = 0 := by rw [List.getD_eq_getElem?_getD, List.getElem?_replicate]; split <;> rfl
  rw [hg0] at hc0
  clear hown1 hg1 hkb HT1 hg0
  go_wp2_with fail
  go_loopw [8] (fun sv wr => ∃ (s : Nat) (D : List Int), 1 ≤ s ∧ s ≤ N ∧ sv = .int .u32 (s : Int) ∧ Hid (TbI w wr E kb N s D)) (fun sv _ => N - (intOf sv).toNat)
  case atStart => exact ⟨1, _, Nat.le_refl _, hN1, rfl, HT2⟩
  case round =>
    clear HT2 hc0 hf0
    obtain ⟨s, D, hs1, hsN, rfl, HI⟩ := hrel
    by_cases hlt : s < N
    · have hle : (s : Int) ≤ (M : Int) := by have := HNM.out; omega
      have hs16 : s < 65536 := by omega
      have h0 : s ≠ 0 := by omega
      have HSN : Hid (∀ i, s.testBit i = true → i < n) := Lib.hid fun i hi => Nat.lt_of_not_le fun hge => by
        have h1 : s < 2 ^ i := Nat.lt_of_lt_of_le (show s < 2 ^ n by have := HNN.out; omega) (Nat.pow_le_pow_right (by decide) hge)
        rw [Nat.testBit_lt_two_pow h1] at hi; cases hi
      obtain ⟨q1, q2, q3⟩ := testBit_ctz s h0 (by omega)
      obtain ⟨v, hv⟩ : ∃ v, v = Lib.ctz 32 s := ⟨_, rfl⟩
      rw [← hv] at q1
      have hvn := HSN.out v q1
      obtain ⟨pv, hpv⟩ : ∃ pv, pv = 2 ^ v := ⟨_, rfl⟩
      have hp16 : pv < 65536 := by rw [hpv]; exact pow_lt16 v (by omega)
      have ONE : Hid (∀ w, Calls Tryd.prog 70 #[.int .i64 (v : Int)] w fun e w' => e = .returned (.int .u32 (pv : Int)) ∧ w = w') := Lib.hid (by rw [hpv]; exact fun w => one_any (v : Int) v rfl (by omega) w)
      have LEA : Hid (∀ wz, Tab wz → Calls Tryd.prog 138 #[.int .u32 (s : Int)] wz fun e w' => e = .returned (.int .i64 (v : Int)) ∧ wz = w') := Lib.hid fun wz h => by
        have := least_any (s : Int) s rfl h0 (by omega) wz h
        rw [← hv] at this
        exact this
      obtain ⟨t, ht⟩ : ∃ t, t = Go.Proofs.YtiooindlpinjhaaDoor.sub s pv := ⟨_, rfl⟩
      have hand : bits BinOp.andNot IntKind.u32 (s : Int) (pv : Int) = (t : Int) := by rw [ht]; exact u32_andNot_nat s pv (by omega) (by omega)
      have hts : t < s := by rw [ht, hpv]; exact sub_less hs16 (by omega) q1
      have ht16 : t < 65536 := by omega
      have hne := HNE.out.next HI.out.bel
      obtain ⟨hb, ho, a, hxp, hca, ha16, hab⟩ := hne.get hvn
      subst hxp
      obtain ⟨lf, hlf⟩ : ∃ lf, lf = a &&& t := ⟨_, rfl⟩
      have hand2 : bits BinOp.and IntKind.u32 (a : Int) (t : Int) = (lf : Int) := by rw [hlf]; exact u32_and_nat a t (by omega) (by omega)
      have hlf16 : lf < 65536 := by rw [hlf]; exact and_lt16 a t ha16
      obtain ⟨L, hL⟩ : ∃ L, L = bitsOf lf := ⟨_, rfl⟩
      have HST : Hid (nuB E s = mxF (nuB E t) (L.map fun u => nuB E (Go.Proofs.YtiooindlpinjhaaDoor.sub t (2 ^ u)))) := Lib.hid (by
        rw [hL]
        exact nuB_step HSY.out n16 h0 hs16 (by rw [ht, hpv, hv]) HSN.out hlf16 fun j => by rw [hlf, Nat.testBit_and, hab, ← hv, Bool.and_comm])
      have HLB : Hid (∀ u ∈ L, u < 16 ∧ t.testBit u = true) := Lib.hid fun u hu => by
        rw [hL] at hu
        refine ⟨bitsOf_lt16 hlf16 hu, ?_⟩
        have := (mem_left hlf16).1 hu
        rw [hlf, Nat.testBit_and, Bool.and_eq_true] at this
        exact this.2
      have hL16 : L.length ≤ 32 := by rw [hL]; exact bitsOf_length lf
      have LIST : Hid (∀ (wz : World), Tab wz → Calls Tryd.prog 127 #[.int .u32 (lf : Int)] wz fun e w' => ∃ v, e = .returned v ∧ w'.ownsRow wz.heap.size 3 1 v L.length ((natInts L).map (Value.int .i64)) ∧ Below wz.heap.size wz w') := Lib.hid (fun wz hT => by
        have := list_any _ lf rfl (by omega) wz hT
        rw [← hL] at this
        exact this)
      have hvi : (v : Int) < (n : Int) := by omega
      have hv0 : (0 : Int) ≤ (v : Int) := by omega
      have HTr := Lib.hid (HT.out.keep HI.out.bel)
      have HCA := Lib.hid hca
      clear hv hpv ht hlf hL q1 q2 q3 hab hne hca h0
      obtain ⟨w3, hw3⟩ : ∃ w3, w3 = wr := ⟨_, rfl⟩
      rw [← hw3] at HI HTr HCA ⊢
      clear hw3
      have hca3 := (below_alloc w3 (.cells #[] 2)).at' HCA.out
      go_upto_region 10 with (first
        | (go_at_call 127; refine (LIST.out _ (HTr.out.keep (below_alloc _ _))).mono ?_; rintro e w5 ⟨lv, rfl, hl5, hb5⟩; obtain ⟨lp, lc, rfl⟩ := owns_shapeBa hl5; have HL5 := Lib.hid (Nums.of_owns hl5 (natInts_length _).symm (by omega)); have HB5 := Lib.hid ((below_alloc w3 (.cells #[] 2)).trans (hb5.mono (below_alloc w3 (.cells #[] 2)).size)); have HW5 := Lib.hid (ownsRow_below (ownsRow_empty w3 2 1) hb5); clear hl5 hb5)
        | (go_at_call 70; refine (ONE.out _).mono ?_; rintro e w4 ⟨rfl, rfl⟩)
        | (go_at_call 138; refine (LEA.out _ HTr.out).mono ?_; rintro e w4 ⟨rfl, rfl⟩)
        | (go_at_call 56; refine (ALL.out _).mono ?_; rintro e w4 ⟨rfl, rfl⟩))
      obtain ⟨nuf, hnuf⟩ : ∃ nuf : Nat → Nat, nuf = fun u => nuB E (Go.Proofs.YtiooindlpinjhaaDoor.sub t (2 ^ u)) := ⟨_, rfl⟩
      rw [← hnuf] at HST
      have HNF := Lib.hid hnuf
      clear hnuf hca3
      go_wp2_with fail
      go_loopw [11, 42] (fun wv kv wx => ∃ k : Nat, k ≤ L.length ∧ kv = .int .i64 (k : Int) ∧ Hid (wx.ownsRow w3.heap.size 2 1 wv k ((natInts ((L.take k).map nuf)).map (Value.int .i64))) ∧ Hid (Nums wx 3 .i64 (.slice lp L.length lc) (natInts L)) ∧ Hid (Below w3.heap.size w3 wx)) (fun _ kv _ => L.length - (intOf kv).toNat)
      case atStart => exact ⟨0, Nat.zero_le _, rfl, HW5, HL5, HB5⟩
      case round =>
        clear HL5 HB5 HW5
        obtain ⟨k, hk, rfl, HW, HL, HB⟩ := hrel
        have hszb := HB.out.size
        have HTb := Lib.hid (HI.out.next HB.out)
        have hown := HW.out
        by_cases hkl : k < L.length
        · obtain ⟨u, hu⟩ : ∃ u, u = L[k] := ⟨_, rfl⟩
          obtain ⟨hu16, hub⟩ := HLB.out u (by rw [hu]; exact List.getElem_mem hkl)
          obtain ⟨pu, hpu⟩ : ∃ pu, pu = 2 ^ u := ⟨_, rfl⟩
          have hpu16 : pu < 65536 := by rw [hpu]; exact pow_lt16 u hu16
          have ONU : Hid (∀ w, Calls Tryd.prog 70 #[.int .i64 (u : Int)] w fun e w' => e = .returned (.int .u32 (pu : Int)) ∧ w = w') := Lib.hid (by rw [hpu]; exact fun w => one_any (u : Int) u rfl (by omega) w)
          obtain ⟨tu, htu⟩ : ∃ tu, tu = Go.Proofs.YtiooindlpinjhaaDoor.sub t pu := ⟨_, rfl⟩
          have hand3 : bits BinOp.andNot IntKind.u32 (t : Int) (pu : Int) = (tu : Int) := by rw [htu]; exact u32_andNot_nat t pu (by omega) (by omega)
          have htl : tu < t := by rw [htu, hpu]; exact sub_less ht16 hu16 hub
          obtain ⟨nv, hnv⟩ : ∃ nv, nv = nuf u := ⟨_, rfl⟩
          have hcell : wr.cell? ⟨kb, tu, none⟩ = some (.int .i64 (nv : Int)) := by
            have h1 := own64_at HTb.out.own HTb.out.len (u := tu) (by omega)
            rw [HTb.out.val tu (by omega)] at h1
            rw [h1, htu, hpu, hnv, HNF.out]
          obtain ⟨lb, lo, hlp, hcl⟩ := HL.out.get (k := k) (by rw [natInts_length]; exact hkl)
          subst hlp
          have hcn : (natInts L)[k]'(by rw [natInts_length]; exact hkl) = ((u : Nat) : Int) := by rw [hu]; simp [natInts]
          rw [hcn] at hcl
          have HSN2 : Hid ((L.take (k + 1)).map nuf = (L.take k).map nuf ++ [nv]) := Lib.hid (by rw [take_snoc L k hkl, List.map_append, hnv, hu]; rfl)
          have hki : (k : Int) < (L.length : Int) := by omega
          have hk0 : (0 : Int) ≤ (k : Int) := by omega
          have htuN : (tu : Int) < (N : Int) := by omega
          have htu0 : (0 : Int) ≤ (tu : Int) := by omega
          clear hu hpu htu hnv hcn
          go_wp2_with (first
            | (go_at_call 70; refine (ONU.out _).mono ?_; rintro e w6 ⟨rfl, rfl⟩)
            | (at_builtin; refine wpList_app1 ty_i64 rfl rfl rfl hown rfl rfl (by omega) hszb ?_; intro v' wz hown' hgz _))
          go_roundw
          case rel => exact ⟨k + 1, by omega, by go_num, Lib.hid (by rw [HSN2.out, natInts_snocBa, List.map_append]; exact hown'), Lib.hid (HL.out.other hown hgz (by decide)), Lib.hid (below_grown HB.out hown hgz (Nat.le_refl _) hszb)⟩
          case measure => simp [intOf]; omega
        · obtain rfl : k = L.length := by omega
          obtain ⟨wp, wc2, rfl⟩ := owns_shapeBa hown
          obtain ⟨ns, hns⟩ : ∃ ns, ns = nuB E s := ⟨_, rfl⟩
          obtain ⟨nt, hnt⟩ : ∃ nt, nt = nuB E t := ⟨_, rfl⟩
          have hnt16 : nt ≤ 16 := by rw [hnt]; exact nuB_le E ht16
          have CLO : Hid (∀ wz, Nums wz 2 .i64 (.slice wp L.length wc2) (natInts (L.map nuf)) → Calls Tryd.prog 124 #[.int .i64 (nt : Int), .slice wp L.length wc2] wz fun e w' => e = .returned (.int .i64 (ns : Int)) ∧ wz = w') := Lib.hid fun wz h => by
            have := mxClo_any nt (L.map nuf) _ (by rw [List.length_map]; exact hL16) (by omega) (fun x hx => by
              obtain ⟨u, hu, rfl⟩ := List.mem_map.1 hx
              have h1 := HLB.out u hu
              have h2 := sub_le t u ht16 h1.1
              have h3 := nuB_le E h2
              rw [HNF.out]
              show nuB E _ ≤ 99
              omega) wz h
            rw [hnt, ← HST.out, ← hns] at this
            rw [hnt]
            exact this
          have HWN : Hid (Nums wr 2 .i64 (.slice wp L.length wc2) (natInts (L.map nuf))) := Lib.hid (by
            have h1 := HW.out
            rw [List.take_length] at h1
            exact Nums.of_owns h1 (by rw [natInts_length, List.length_map]) (by omega))
          have hcell : wr.cell? ⟨kb, t, none⟩ = some (.int .i64 (nt : Int)) := by
            have h1 := own64_at HTb.out.own HTb.out.len (u := t) (by omega)
            rw [HTb.out.val t (by omega)] at h1
            rw [h1, hnt]
          have hcs := own64_at HTb.out.own HTb.out.len (u := s) hlt
          have hfs := HTb.out.own.frozenAt s
          have HNS := Lib.hid hns
          have HPT := Lib.hid (HTb.out.put hlt (f := (ns : Int)) (by rw [HNS.out]))
          generalize D.getD s 0 = old at hcs
          have hsi : (s : Int) < (N : Int) := by omega
          have hs0 : (0 : Int) ≤ (s : Int) := by omega
          have hti : (t : Int) < (N : Int) := by omega
          have ht0 : (0 : Int) ≤ (t : Int) := by omega
          have hws : IntKind.u32.wrap ((s : Int) + 1) = (s : Int) + 1 := by rw [IntKind.wrap_u32]; omega
          clear hns hnt hown
          go_wp2_with (go_at_call 124; refine (CLO.out _ HWN.out).mono ?_; rintro e w6 ⟨rfl, rfl⟩)
          go_roundw
          case rel => exact ⟨s + 1, _, by omega, by omega, by first | rfl | go_num, HPT⟩
          case measure => simp [intOf]; omega
    · obtain rfl : s = N := by omega
      have hle : ¬ (s : Int) ≤ (M : Int) := by have := HNM.out; omega
      go_wp2_with (go_at_call 56; refine (ALL.out _).mono ?_; rintro e w0 ⟨rfl, rfl⟩)
      go_ret
      exact ⟨kb, D, rfl, HI.out⟩

end Go.Proofs.YtiooindlpinjhaaDoor
