/- Walks: the reference's search of a model: what lies around a set, whether it is whole, what a word lacks. -/
import Derived.Test.YtfokiijcpkhllaaDoorFuQ21
import Derived.Test.YtfokiijcpkhllaaDoorFuQ12
namespace Go.Proofs.YtfokiijcpkhllaaDoor
open Go.RowKit

/-- All neighbours of a set. -/
def AroP (g : List (List Int)) (s r : Nat) : Prop := r < 65536 ∧ ∀ j, r.testBit j = true ↔ ∃ v, v < g.length ∧ s.testBit v = true ∧ ofG g v j = true
theorem netL_at {g : List (List Int)} {v : Nat} (hv : v < g.length) (h : v < (netL g).length) : (netL g)[v] = mask (row g v) := by
  simp [netL, row, hv]
theorem mask_ofG {g : List (List Int)} (hg : GOk g) {v : Nat} (hv : v < g.length) (j : Nat) : (mask (row g v)).testBit j = ofG g v j := by
  rw [Bool.eq_iff_iff, bit_maskM (fun x hx => ((hg.sets v hv).1.1 x hx).1)]
  simp [ofG]

set_option maxRecDepth 100000 in
set_option maxHeartbeats 2000000 in
theorem l21Around_any (v : Value) (g : List (List Int)) (hok : GOk g) (z : Int) (s : Nat) (hz : z = s) (hs : s < 65536) (w : World) (hn : Nums w 2 .i64 v (natInts (netL g))) :
    Calls Tryd.prog 146 #[v, .int .i64 z] w fun e w' => (∃ r : Nat, e = .returned (.int .i64 r) ∧ AroP g s r) ∧ w = w' := by
  subst hz
  obtain ⟨p, c, rfl, _⟩ := id hn.shape
  have HN := Lib.hid hn
  have h16 := hok.le
  have HOK := Lib.hid hok
  have HLl : Hid ((netL g).length = g.length) := Lib.hid (by simp [netL])
  have HLT := Lib.hid (netL_lt hok)
  rw [natInts_length, HLl.out] at HN ⊢
  clear hn hok
  go_enter Tryd.func146, Tryd.ntmps146
  go_wp2
  go_loopw [5, 6] (fun o i wr => ∃ (k r : Nat), k ≤ g.length ∧ i = .int .i64 k ∧ o = .int .i64 r ∧ r < 65536 ∧ Hid (∀ j, r.testBit j = true ↔ ∃ v, v < k ∧ s.testBit v = true ∧ ofG g v j = true) ∧ wr = w) (fun _ i _ => g.length - (intOf i).toNat)
  case atStart => exact ⟨0, 0, Nat.zero_le _, rfl, rfl, by decide, Lib.hid (fun j => by simp), rfl⟩
  case round =>
    obtain ⟨k, r, hk, rfl, rfl, hr, HR, hw⟩ := hrel
    subst hw
    by_cases hlt : k < g.length
    · have hlt' : k < (netL g).length := by rw [HLl.out]; exact hlt
      have hbn := Lib.hid (bit_ne s k hs (by omega))
      obtain ⟨t, ht⟩ : ∃ t, t = 2 ^ k := ⟨_, rfl⟩
      have HT := Lib.hid ht
      rw [← ht] at hbn
      by_cases hb : s.testBit k = true
      · obtain ⟨b, o, hp, hc⟩ := HN.out.get (k := k) (by rw [natInts_length]; exact hlt')
        subst hp
        have hcn : (natInts (netL g))[k]'(by rw [natInts_length]; exact hlt') = ((((netL g)[k]'hlt' : Nat)) : Int) := by simp [natInts]
        rw [hcn, netL_at hlt hlt'] at hc
        have hm16 := HLT.out _ (List.getElem_mem hlt')
        rw [netL_at hlt hlt'] at hm16
        have HMB := Lib.hid (mask_ofG HOK.out hlt)
        have hbt : (bits BinOp.and IntKind.i64 (s : Int) (t : Int) != 0) = true := by rw [hbn.out]; exact hb
        generalize mask (row g k) = M at hc hm16 HMB
        have hor := Lib.hid (i64_or_nat r M (by omega) (by omega))
        have hrm : r ||| M < 65536 := or_lt16 _ _ hr hm16
        have HNX : Hid (∀ j, (r ||| M).testBit j = true ↔ ∃ v, v < k + 1 ∧ s.testBit v = true ∧ ofG g v j = true) := Lib.hid (fun j => by
          rw [Nat.testBit_or, Bool.or_eq_true, HR.out, HMB.out]
          constructor
          · rintro (⟨v, h1, h2, h3⟩ | h)
            · exact ⟨v, by omega, h2, h3⟩
            · exact ⟨k, by omega, hb, h⟩
          · rintro ⟨v, h1, h2, h3⟩
            by_cases e : v = k
            · subst e; exact .inr h3
            · exact .inl ⟨v, by omega, h2, h3⟩)
        clear hcn hb ht
        go_wp2_with (go_at_call 51; refine (l12Bit_any _ k rfl (by omega) _).mono ?_; rintro e w5 ⟨he5, hw5⟩; rw [← HT.out] at he5; subst he5; subst hw5)
        go_roundw
        case rel => exact ⟨k + 1, r ||| M, by omega, by go_num, by rw [hor.out], hrm, HNX, trivial⟩
        case measure => simp [intOf]; omega
      · have hb' : s.testBit k = false := by simpa using hb
        have hbt : (bits BinOp.and IntKind.i64 (s : Int) (t : Int) != 0) = false := by rw [hbn.out]; exact hb'
        have HNX : Hid (∀ j, r.testBit j = true ↔ ∃ v, v < k + 1 ∧ s.testBit v = true ∧ ofG g v j = true) := Lib.hid (fun j => by
          rw [HR.out]
          constructor
          · rintro ⟨v, h1, h2, h3⟩
            exact ⟨v, by omega, h2, h3⟩
          · rintro ⟨v, h1, h2, h3⟩
            by_cases e : v = k
            · subst e; exact absurd h2 hb
            · exact ⟨v, by omega, h2, h3⟩)
        clear hb hb' ht
        go_wp2_with (go_at_call 51; refine (l12Bit_any _ k rfl (by omega) _).mono ?_; rintro e w5 ⟨he5, hw5⟩; rw [← HT.out] at he5; subst he5; subst hw5)
        go_roundw
        case rel => exact ⟨k + 1, r, by omega, by go_num, rfl, hr, HNX, trivial⟩
        case measure => simp [intOf]; omega
    · obtain rfl : k = g.length := by omega
      go_wp2
      go_ret
      exact ⟨⟨r, rfl, hr, HR.out⟩, rfl⟩

/-- The lowest number of a set, as the reference finds it. -/
theorem low_and {s : Nat} (h0 : s ≠ 0) (hs : s < 65536) : bits BinOp.and IntKind.i64 (s : Int) (-(s : Int)) = ((2 ^ Lib.ctz 32 s : Nat) : Int) := by
  show IntKind.i64.wrap ((BitVec.ofInt 64 (s : Int) &&& BitVec.ofInt 64 (-(s : Int))).toNat : Int) = _
  have e1 : (BitVec.ofInt 64 (s : Int)).toNat = s := by rw [BitVec.ofInt_natCast, BitVec.toNat_ofNat]; omega
  have e2 : (BitVec.ofInt 64 (-(s : Int))).toNat = 2 ^ 64 - s := by
    rw [BitVec.toNat_ofInt]
    omega
  have hst := bitsOf_step s h0 (by omega)
  have hlt := (testBit_ctz s h0 (by omega)).2.1
  have hmem : ∀ j, (s &&& (s - 1)).testBit j = true ↔ s.testBit j = true ∧ j ≠ Lib.ctz 32 s := fun j => by
    have hl2 : s &&& (s - 1) < 4294967296 := Nat.lt_of_le_of_lt Nat.and_le_left (by omega)
    have hr := bitsOf_rising s
    rw [hst] at hr
    have hr2 := (List.pairwise_cons.1 hr).1
    constructor
    · intro h
      have hj := (mem_bitsOf' hl2).2 h
      refine ⟨(mem_bitsOf' (by omega)).1 (by rw [hst]; exact List.mem_cons_of_mem _ hj), fun e => ?_⟩
      have := hr2 j hj
      omega
    · rintro ⟨h1, h2⟩
      have hj := (mem_bitsOf' (show s < 4294967296 by omega)).2 h1
      rw [hst] at hj
      rcases List.mem_cons.1 hj with e | hj
      · exact absurd e h2
      · exact (mem_bitsOf' hl2).1 hj
  have e3 : s &&& (2 ^ 64 - s) = 2 ^ Lib.ctz 32 s := Nat.eq_of_testBit_eq fun j => by
    rw [Nat.testBit_and, show 2 ^ 64 - s = 2 ^ 64 - ((s - 1) + 1) by omega, Nat.testBit_two_pow_sub_succ (by omega), Nat.testBit_two_pow]
    have hm := hmem j
    rw [Nat.testBit_and] at hm
    have hc := (testBit_ctz s h0 (by omega)).1
    by_cases e : Lib.ctz 32 s = j
    · subst e
      rw [hc] at hm ⊢
      have : (s - 1).testBit (Lib.ctz 32 s) = false := by
        cases h : (s - 1).testBit (Lib.ctz 32 s) with
        | false => rfl
        | true =>
          rw [h] at hm
          exact absurd rfl (hm.1 rfl).2
      rw [this]
      simp; omega
    · cases hb : s.testBit j with
      | false => simp [e]
      | true =>
        rw [hb] at hm
        have : (s - 1).testBit j = true := by
          have := hm.2 ⟨rfl, fun h => e h.symm⟩
          simpa using this
        simp [this, e]
  rw [BitVec.toNat_and, e1, e2, e3, IntKind.wrap_i64]
  have := pow_lt32 _ hlt
  omega
/-- What has been met of a set, from its lowest number on. -/
structure WhI (g : List (List Int)) (s u M : Nat) : Prop where
  low : M.testBit u = true
  inn : ∀ j, M.testBit j = true → s.testBit j = true ∧ Rch (ofG g) (· ∈ bitsOf s) u j
theorem WhI.lt {g : List (List Int)} {s u M : Nat} (h : WhI g s u M) (hs : s < 65536) : M < 65536 := by
  refine Nat.lt_of_not_le fun hge => ?_
  obtain ⟨v, hv, hb⟩ := Nat.exists_ge_and_testBit_of_ge_two_pow (show 2 ^ 16 ≤ M from hge)
  have h1 := (h.inn v hb).1
  rw [Nat.testBit_lt_two_pow (Nat.lt_of_lt_of_le hs (show 65536 ≤ 2 ^ v from Nat.pow_le_pow_right (n := 2) (by decide) hv))] at h1
  exact absurd h1 (by decide)
theorem WhI.more {g : List (List Int)} {s u M r : Nat} (h : WhI g s u M) (hs : s < 65536) (hr : AroP g M r) : WhI g s u (M ||| (r &&& s)) where
  low := by rw [Nat.testBit_or, h.low]; rfl
  inn := fun j hj => by
    rw [Nat.testBit_or, Bool.or_eq_true, Nat.testBit_and, Bool.and_eq_true] at hj
    rcases hj with hj | ⟨h1, h2⟩
    · exact h.inn j hj
    · obtain ⟨v, _, hv2, hv3⟩ := (hr.2 j).1 h1
      exact ⟨h2, .step (h.inn v hv2).2 hv3 ((mem_left hs).2 h2)⟩
theorem WhI.done {g : List (List Int)} (hg : GOk g) {s u M r : Nat} (h : WhI g s u M) (hs : s < 65536) (hsl : s < 2 ^ g.length) (hr : AroP g M r) (he : M ||| (r &&& s) = M) : ∀ j, M.testBit j = true ↔ j ∈ bitsOf s ∧ Rch (ofG g) (· ∈ bitsOf s) u j := fun j => by
  constructor
  · intro hj
    exact ⟨(mem_left hs).2 (h.inn j hj).1, (h.inn j hj).2⟩
  · rintro ⟨_, hR⟩
    refine rch_closed (T := fun x => M.testBit x = true) h.low (fun a b ha hE hb => ?_) j hR
    have hb2 := (mem_left hs).1 hb
    have han : a < g.length := by
      have := sub_full hsl a (h.inn a ha).1
      rwa [full_bit, decide_eq_true_eq] at this
    have hrb : r.testBit b = true := (hr.2 b).2 ⟨a, han, ha, hE⟩
    rw [← he, Nat.testBit_or, Nat.testBit_and, hrb, hb2]
    simp

set_option maxRecDepth 100000 in
set_option maxHeartbeats 4000000 in
theorem l21Whole_any (v : Value) (g : List (List Int)) (hok : GOk g) (z : Int) (s : Nat) (hz : z = s) (hsl : s < 2 ^ g.length) (w : World) (hn : Nums w 2 .i64 v (natInts (netL g))) :
    Calls Tryd.prog 145 #[v, .int .i64 z] w fun e w' => e = .returned (.bool (dec (ConnL (ofG g) (bitsOf s)))) ∧ w = w' := by
  subst hz
  have h16 := hok.le
  have hs := (cand_bits h16 hsl).2
  have HN := Lib.hid hn
  have HOK := Lib.hid hok
  have HSL := Lib.hid hsl
  clear hn hok hsl
  by_cases h0 : s = 0
  · subst h0
    have HD := Lib.hid (dec_false (show ¬ ConnL (ofG g) (bitsOf 0) by rw [bitsOf_zero]; exact not_connL_nil _))
    have hb0 : bits BinOp.and IntKind.i64 0 0 = 0 := by decide
    go_enter Tryd.func145, Tryd.ntmps145
    go_wp2
    go_loopw [5, 6] (fun m _ wr => m = .int .i64 0 ∧ wr = w) (fun _ _ _ => 0)
    case atStart => exact ⟨by first | rfl | rw [hb0], rfl⟩
    case round =>
      obtain ⟨rfl, rfl⟩ := hrel
      go_wp2
      go_ret
      exact ⟨by rw [HD.out]; rfl, rfl⟩
  have hst := bitsOf_step s h0 (by omega)
  obtain ⟨hub, hu32, _⟩ := testBit_ctz s h0 (by omega)
  have hla := low_and h0 hs
  have HEQ : Hid (∀ M : Nat, M < 65536 → (∀ j, M.testBit j = true ↔ j ∈ bitsOf s ∧ Rch (ofG g) (· ∈ bitsOf s) (Lib.ctz 32 s) j) → ((M : Int) == (s : Int)) = dec (ConnL (ofG g) (bitsOf s))) := Lib.hid (fun m hm hmb => by
    have hi : ConnL (ofG g) (bitsOf s) ↔ m = s := by
      rw [hst, connL_part, ← hst]
      constructor
      · intro e
        refine Nat.eq_of_testBit_eq fun i => ?_
        rw [Bool.eq_iff_iff, hmb i, ← mem_partL, e, mem_left hs]
      · rintro rfl
        refine rising_ext _ _ (partL_rising (bitsOf_rising _) _) (bitsOf_rising _) fun i => ?_
        rw [mem_partL, ← hmb i, mem_left hs]
    by_cases e : m = s
    · rw [dec_true (hi.2 e), e]; simp
    · rw [dec_false (fun k => e (hi.1 k))]
      exact beq_eq_false_iff_ne.2 (by omega))
  have h0i : ((s : Int) != 0) = true := bne_iff_ne.2 (by omega)
  have START : Hid (WhI g s (Lib.ctz 32 s) (2 ^ Lib.ctz 32 s)) := Lib.hid ⟨by rw [Nat.testBit_two_pow]; simp, fun j hj => by
    rw [Nat.testBit_two_pow, decide_eq_true_eq] at hj
    subst hj
    exact ⟨hub, .base⟩⟩
  generalize Lib.ctz 32 s = u at *
  have hwn : IntKind.i64.wrap (-(s : Int)) = -(s : Int) := by rw [IntKind.wrap_i64]; omega
  clear hst hub h0
  go_enter Tryd.func145, Tryd.ntmps145
  go_wp2
  go_loopw [5, 6] (fun m _ wr => ∃ M : Nat, m = .int .i64 M ∧ Hid (WhI g s u M) ∧ wr = w) (fun m _ _ => 65536 - (intOf m).toNat)
  case atStart => exact ⟨2 ^ u, by first | (rw [hla]) | rfl, START, rfl⟩
  case round =>
    clear START hla
    obtain ⟨M, rfl, HI, hw⟩ := hrel
    subst hw
    have hM := HI.out.lt hs
    have hM0 : M ≠ 0 := fun e => by have := HI.out.low; rw [e] at this; simp at this
    have hM0i : ((M : Int) != 0) = true := bne_iff_ne.2 (by omega)
    go_upto_region 4 with (go_at_call 146; refine (l21Around_any _ g HOK.out _ M rfl hM _ HN.out).mono ?_; rintro e w5 ⟨⟨r, rfl, hr⟩, hw5⟩; subst hw5; have HRA := Lib.hid hr; have hr16 := hr.1; have hand := i64_and_nat r s (by omega) (by omega); have hq16 : r &&& s < 65536 := Nat.lt_of_le_of_lt Nat.and_le_right hs; have hor := i64_or_nat M (r &&& s) (by omega) (by omega); clear hr)
    have HMO := Lib.hid (HI.out.more hs HRA.out)
    have HDO := Lib.hid (fun he => HI.out.done HOK.out hs HSL.out HRA.out he)
    have hle : M ≤ M ||| (r &&& s) := Nat.left_le_or
    generalize M ||| (r &&& s) = Q at *
    by_cases he : Q = M
    · have hei : ((Q : Int) == (M : Int)) = true := by simp [he]
      have HF := Lib.hid (HEQ.out M hM (HDO.out he))
      clear he
      go_wp2
      go_ret
      exact ⟨ret_bool HF.out, rfl⟩
    · have hei : ((Q : Int) == (M : Int)) = false := beq_eq_false_iff_ne.2 (by omega)
      have hlt : M < Q := by omega
      have hQ := HMO.out.lt hs
      clear he
      go_wp2
      go_roundw
      case rel => exact ⟨Q, by first | rfl | rw [hor], HMO, trivial⟩
      case measure => simp [intOf]; omega

set_option maxRecDepth 100000 in
set_option maxHeartbeats 2000000 in
theorem l21Lacks_any (v : Value) (wd : List Nat) (z : Int) (m : Nat) (hz : z = m) (hm : m ≤ 1000) (w : World) (hn : Nums w 2 .i64 v (natInts wd)) :
    Calls Tryd.prog 126 #[v, .int .i64 z] w fun e w' => e = .returned (.int .i64 (lackW m wd : Nat)) ∧ w = w' := by
  subst hz
  have HN := Lib.hid hn
  clear hn
  have HS : Hid (∀ k, lackW (k + 1) wd = lackW k wd + (if k + 1 ∈ wd then 0 else 1)) := Lib.hid (fun k => by
    unfold lackW
    rw [List.range_succ, List.countP_append, List.countP_singleton]
    by_cases h : k + 1 ∈ wd <;> simp [h])
  go_enter Tryd.func126, Tryd.ntmps126
  go_wp2
  go_loopw [5, 6] (fun o i wr => ∃ k : Nat, k ≤ m ∧ i = .int .i64 ((k : Int) + 1) ∧ o = .int .i64 (lackW k wd : Nat) ∧ wr = w) (fun _ i _ => m + 1 - (intOf i).toNat)
  case atStart => exact ⟨0, Nat.zero_le _, rfl, rfl, rfl⟩
  case round =>
    obtain ⟨k, hk, rfl, rfl, hw⟩ := hrel
    subst hw
    have hkl := lackW_le k wd
    by_cases hlt : k < m
    · have hle : (k : Int) + 1 ≤ (m : Int) := by omega
      have HSK := Lib.hid (HS.out k)
      by_cases hmem : k + 1 ∈ wd
      · have HD := Lib.hid (dec_true (show (k : Int) + 1 ∈ natInts wd from mem_natInts.2 ⟨k + 1, hmem, by omega⟩))
        have HSN : Hid (lackW (k + 1) wd = lackW k wd) := Lib.hid (by rw [HSK.out, if_pos hmem]; rfl)
        generalize lackW k wd = q at *
        clear hmem
        go_wp2_with (go_at_call 66; refine (l1Has_any _ _ _ _ HN.out).mono ?_; rintro e w5 ⟨he, hw5⟩; rw [HD.out] at he; subst he; subst hw5)
        go_roundw
        case rel => exact ⟨k + 1, by omega, val_int (by omega), by rw [HSN.out], trivial⟩
        case measure => simp [intOf]; omega
      · have HD := Lib.hid (dec_false (show ¬ (k : Int) + 1 ∈ natInts wd from fun h => by
          obtain ⟨i, hi, e⟩ := mem_natInts.1 h
          obtain rfl : i = k + 1 := by omega
          exact hmem hi))
        have HSN : Hid (lackW (k + 1) wd = lackW k wd + 1) := Lib.hid (by rw [HSK.out, if_neg hmem])
        generalize lackW k wd = q at *
        clear hmem
        go_wp2_with (go_at_call 66; refine (l1Has_any _ _ _ _ HN.out).mono ?_; rintro e w5 ⟨he, hw5⟩; rw [HD.out] at he; subst he; subst hw5)
        go_roundw
        case rel => exact ⟨k + 1, by omega, val_int (by omega), by rw [HSN.out]; exact val_int (by omega), trivial⟩
        case measure => simp [intOf]; omega
    · obtain rfl : k = m := by omega
      have hgt : ¬ (k : Int) + 1 ≤ (k : Int) := by omega
      go_wp2
      go_ret
      exact ⟨rfl, rfl⟩

end Go.Proofs.YtfokiijcpkhllaaDoor

/- append in a drawn region: the old row is kept. -/
namespace Go.Proofs.YtfokiijcpkhllaaDoor
open Go.RowKit

/-- A shorter row of the same block. -/
theorem ownsRow_headK {w : World} {base : Nat} {E : TypeId} {g c m n : Nat} {xs : List Value} (h : w.ownsRow base E 1 (.slice (some ⟨g, 0, none⟩) m c) m xs) (hk : n ≤ m) : w.ownsRow base E 1 (.slice (some ⟨g, 0, none⟩) n c) n (xs.take n) := by
  have hl := h.1
  refine ⟨by rw [List.length_take]; omega, ?_⟩
  rcases h.2 with ⟨h2, h0⟩ | ⟨g', cap, cur, hv, h2, h3, h4, h5, h6, h7⟩
  · simp at h2
  · simp only [Value.slice.injEq, Option.some.injEq, Addr.mk.injEq] at hv
    obtain ⟨⟨rfl, _⟩, _, rfl⟩ := hv
    exact .inr ⟨g, c, cur, rfl, h2, h3, by omega, h5, h6, by rw [← h7, List.take_take, Nat.mul_one, Nat.mul_one, Nat.min_eq_left hk]⟩

theorem owns_shapeK {w : World} {base : Nat} {E : TypeId} {size n : Nat} {v : Value} {xs : List Value} (h : w.ownsRow base E size v n xs) : ∃ p c, v = .slice p n c := by
  rcases h.2 with ⟨rfl, rfl⟩ | ⟨g, cap, cur, rfl, _⟩
  · exact ⟨_, _, rfl⟩
  · exact ⟨_, _, rfl⟩
/-- What an append leaves of the row that it was made of, as long as only the new row is written. -/
def KeptK (w0 w : World) (base : Nat) (E : TypeId) (v : Value) (n : Nat) (xs : List Value) (v' : Value) (ys : List Value) : Prop :=
  ∀ w3, w.grownBy w3 v'.ownBlock → w3.ownsRow base E 1 v' (n + 1) ys → w3.ownsRow base E 1 v n xs ∧ w0.grownBy w3 v.ownBlock

theorem run_appK {P : Program} {T E : TypeId} {z : Value} {bytes : Nat} (S : SlTy P T E z 1 bytes) (w : World) (ty : TypeId) (base : Nat)
    (v : Value) (n : Nat) (xs : List Value) (hown : w.ownsRow base E 1 v n xs) (u el : Value) (hu : Sl w E u 1 [el])
    (h1 : el.oneCell' = true) (hnm : n < 1000000000) (hbase : base ≤ w.heap.size) :
    ∃ v' w', (Builtin.append_ #[T, T] ty #[v, u]).run P w = .ok v' w' ∧ w'.ownsRow base E 1 v' (n + 1) (xs ++ [el]) ∧ w.grownBy w' v.ownBlock ∧
      KeptK w w' base E v n xs v' (xs ++ [el]) ∧ (∀ k, v'.ownBlock = some k → v.ownBlock = some k ∨ w.heap.size ≤ k) := by
  obtain ⟨i, hi, hz, hsz, hby⟩ := info_parts S.info
  obtain ⟨v', w', hr, h2, h3, h4⟩ := run_app S w ty base v n xs hown u 1 [el] hu (by simp) (by simpa using h1) (by omega) hbase
  refine ⟨v', w', hr, h2, h3, fun w3 hg ho => ?_, h4⟩
  have hgr : w.grownBy w3 v.ownBlock := ⟨hg.os.trans h3.os, hg.tape.trans h3.tape, hg.output.trans h3.output, Nat.le_trans h3.size hg.size, fun k hk hne => (hg.block k (Nat.lt_of_lt_of_le hk h3.size) fun e => by
    rcases h4 k e.symm with h5 | h5
    · exact hne h5.symm
    · omega).trans (h3.block k hk hne)⟩
  refine ⟨?_, hgr⟩
  have hl := hown.1
  rcases hown.2 with ⟨rfl, rfl⟩ | ⟨g, cap, cur, rfl, hbg, hgc, hnc, hcm, hcs, htake⟩
  · obtain rfl := List.eq_nil_of_length_eq_zero (show xs.length = 0 by omega)
    exact World.ownsRow_nil _ _ _ _
  · obtain ⟨p, c, rfl, hp, hmc, _, hat⟩ := hu
    cases p with
    | none => have := (hp rfl).1; omega
    | some ad =>
      have hcell : ∀ j x, [el][j]? = some x → w.cell? (ad.add j) = some x := by
        rcases hat with h | ⟨b, o, cur2, fz, hpe, hb, hc⟩
        · simp at h
        · simp only [Option.some.injEq] at hpe
          subst hpe
          intro j x hx
          have hadd : (⟨b, o, none⟩ : Addr).add j = ⟨b, o + j, none⟩ := by unfold Addr.add; split <;> simp_all
          rw [hadd]
          simp [World.cell?, hb, hc j x hx]
      have hbytes : (n + 1) * i.bytes ≤ 140737488355328 := by
        have := S.small
        have h2 : (n + 1) * i.bytes ≤ 1000000000 * 100 := Nat.mul_le_mul (by omega) (by rw [hby]; exact this)
        omega
      by_cases hroom : n + 1 ≤ cap
      · have hr2 := run_append_room (P := P) w T ty E i S.under hi g n cap cur hgc ad 1 c [el] (by rw [hsz]; rfl) hcell (by simpa using h1) hroom (by rw [hsz, List.length_singleton]; omega)
        have heq := hr.symm.trans hr2
        simp only [Result.ok.injEq] at heq
        obtain ⟨rfl, _⟩ := heq
        have := ownsRow_headK ho (show n ≤ n + 1 by omega)
        rwa [List.take_append_of_le_length (by omega), List.take_of_length_le (by omega)] at this
      · have holds : ∀ j x, xs[j]? = some x → w.cell? ((⟨g, 0, none⟩ : Addr).add j) = some x := hown.cells (g := g) rfl
        have hr2 := run_append_grow (P := P) w T ty E i z S.under hi hz ⟨g, 0, none⟩ n cap xs (by rw [hsz]; omega) holds ad 1 c [el] (by rw [hsz]; rfl) hcell (by omega) (by omega) (growslice_fits (by omega) hbytes)
        have heq := hr.symm.trans hr2
        simp only [Result.ok.injEq] at heq
        obtain ⟨rfl, rfl⟩ := heq
        have hgl := (Array.getElem?_eq_some_iff.1 hgc).1
        refine ⟨hl, .inr ⟨g, cap, cur, rfl, hbg, ?_, hnc, hcm, hcs, htake⟩⟩
        refine (hg.block g (by simp; omega) (fun e => ?_)).trans ((heap_alloc_old w.drew _ hgl).trans hgc)
        simp [Value.ownBlock] at e
        omega

/-- 'append(s, x)' of one element in a drawn region; the old row is kept. -/
theorem step_app1K {P : Program} {T E : TypeId} {z : Value} {bytes : Nat} (S : SlTy P T E z 1 bytes) {w : World} {ops : Array Oper} {o : Oper} {a : Act} {K : Act → World → Prop} {Q : Exit → Act → World → Prop} {F : Prop}
    (hgd : o.guard = none) {s x : Operand} (ho : o.op = .call { callee := .builtin .append, args := #[s, x], argTypes := #[T, T] })
    {base : Nat} {v : Value} {n : Nat} {xs : List Value} {el : Value} (hs : a.eval s = v) (hown : w.ownsRow base E 1 v n xs)
    (hx : a.eval x = .slice (some ⟨w.heap.size, 0, none⟩) 1 1) (h1 : el.oneCell' = true)
    (hnm : n < 1000000000) (hbase : base ≤ w.heap.size)
    (h : ∀ b c w', w'.ownsRow base E 1 (.slice (some ⟨b, 0, none⟩) (n + 1) c) (n + 1) (xs ++ [el]) → w.grownBy w' v.ownBlock → KeptK w w' base E v n xs (.slice (some ⟨b, 0, none⟩) (n + 1) c) (xs ++ [el]) → (v.ownBlock = some b ∨ w.heap.size ≤ b) → K (a.put o.dst (.slice (some ⟨b, 0, none⟩) (n + 1) c)) w') :
    if Region.wanted o (yielded ops a.tmps) = true then Oper.wp P o a (w.alloc (.cells #[el] E)) K Q else F := by
  have hw : Region.wanted o (yielded ops a.tmps) = true := by simp [Region.wanted, hgd]
  rw [if_pos hw]
  have hal : (w.alloc (.cells #[el] E)).heap.size = w.heap.size + 1 := by show (w.heap.push _).size = _; simp
  have hu : Sl (w.alloc (.cells #[el] E)) E (.slice (some ⟨w.heap.size, 0, none⟩) 1 1) 1 [el] := by
    refine ⟨_, 1, rfl, (fun e => by cases e), Nat.le_refl _, by omega, Or.inr ⟨w.heap.size, 0, #[el], (0, 0), rfl, heap_alloc_new w _, ?_⟩⟩
    intro j u hu
    match j, hu with
    | 0, hu => simpa using hu
    | j + 1, hu => simp at hu
  obtain ⟨v', w', hr, h2, h3, h4, h5⟩ := run_appK S (w.alloc (.cells #[el] E)) o.type base v n xs (hown.alloc _) _ el hu h1 hnm (by omega)
  have hstep : ∀ w3 : World, ∀ row, (w.alloc (.cells #[el] E)).grownBy w3 row → w.grownBy w3 row := fun w3 row h3 =>
    ⟨h3.os, h3.tape, h3.output, by have := h3.size; omega, fun k hk hne => (h3.block k (by omega) hne).trans (Below.heap_alloc w _ k hk)⟩
  unfold Oper.wp execOp
  simp only [ho, resolve, invoke, builtin, Sem.run_bind, Sem.run_pure, Result.andThen_ok, List.map_toArray, List.map_cons, List.map_nil, hs, hx, hr]
  rcases id h2.2 with ⟨_, h0⟩ | ⟨g, cap, cur, rfl, _⟩
  · omega
  · exact h g cap w' h2 (hstep _ _ h3) (fun w3 hg ho => ⟨(h4 w3 hg ho).1, hstep _ _ (h4 w3 hg ho).2⟩) (by
      rcases h5 g rfl with h6 | h6
      · exact .inl h6
      · exact .inr (by omega))

/-- 'append(s, x)' of one element in a drawn region; where the new row lies. -/
theorem step_app1B {P : Program} {T E : TypeId} {z : Value} {bytes : Nat} (S : SlTy P T E z 1 bytes) {w : World} {ops : Array Oper} {o : Oper} {a : Act} {K : Act → World → Prop} {Q : Exit → Act → World → Prop} {F : Prop}
    (hgd : o.guard = none) {s x : Operand} (ho : o.op = .call { callee := .builtin .append, args := #[s, x], argTypes := #[T, T] })
    {base : Nat} {v : Value} {n : Nat} {xs : List Value} {el : Value} (hs : a.eval s = v) (hown : w.ownsRow base E 1 v n xs)
    (hx : a.eval x = .slice (some ⟨w.heap.size, 0, none⟩) 1 1) (h1 : el.oneCell' = true)
    (hnm : n < 1000000000) (hbase : base ≤ w.heap.size)
    (h : ∀ b c w', w'.ownsRow base E 1 (.slice (some ⟨b, 0, none⟩) (n + 1) c) (n + 1) (xs ++ [el]) → w.grownBy w' v.ownBlock → (v.ownBlock = some b ∨ w.heap.size ≤ b) → K (a.put o.dst (.slice (some ⟨b, 0, none⟩) (n + 1) c)) w') :
    if Region.wanted o (yielded ops a.tmps) = true then Oper.wp P o a (w.alloc (.cells #[el] E)) K Q else F := by
  have hw : Region.wanted o (yielded ops a.tmps) = true := by simp [Region.wanted, hgd]
  rw [if_pos hw]
  have hal : (w.alloc (.cells #[el] E)).heap.size = w.heap.size + 1 := by show (w.heap.push _).size = _; simp
  have hu : Sl (w.alloc (.cells #[el] E)) E (.slice (some ⟨w.heap.size, 0, none⟩) 1 1) 1 [el] := by
    refine ⟨_, 1, rfl, (fun e => by cases e), Nat.le_refl _, by omega, Or.inr ⟨w.heap.size, 0, #[el], (0, 0), rfl, heap_alloc_new w _, ?_⟩⟩
    intro j u hu
    match j, hu with
    | 0, hu => simpa using hu
    | j + 1, hu => simp at hu
  obtain ⟨v', w', hr, h2, h3, h4⟩ := run_app S (w.alloc (.cells #[el] E)) o.type base v n xs (hown.alloc _) _ 1 [el] hu (by simp) (by simpa using h1) (by omega) (by omega)
  unfold Oper.wp execOp
  simp only [ho, resolve, invoke, builtin, Sem.run_bind, Sem.run_pure, Result.andThen_ok, List.map_toArray, List.map_cons, List.map_nil, hs, hx, hr]
  rcases id h2.2 with ⟨_, h0⟩ | ⟨g, cap, cur, rfl, _⟩
  · omega
  · refine h g cap w' h2 ⟨h3.os, h3.tape, h3.output, by have := h3.size; omega, fun k hk hne => (h3.block k (by omega) hne).trans (Below.heap_alloc w _ k hk)⟩ ?_
    rcases h4 g rfl with h5 | h5
    · exact .inl h5
    · exact .inr (by omega)

end Go.Proofs.YtfokiijcpkhllaaDoor
