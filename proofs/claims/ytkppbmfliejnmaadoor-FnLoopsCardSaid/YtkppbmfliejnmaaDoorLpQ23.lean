/- Walks: size (of sets of sixteen), whether edges are left, canTrail (the program's). -/
import Derived.Test.YtkppbmfliejnmaaDoorLpQ22
import Derived.Lib.Tables
import Derived.Lib.BitFns
import Derived.Test.YtkppbmfliejnmaaDoorLpQ14
import Derived.Test.YtkppbmfliejnmaaDoorLpQ21
import Derived.Test.YtkppbmfliejnmaaDoorLpQ12
import Derived.Test.YtkppbmfliejnmaaDoorLpQ7
import Derived.Test.YtkppbmfliejnmaaDoorLpQ17
import Derived.Test.YtkppbmfliejnmaaDoorLpQ4
import Derived.Test.YtkppbmfliejnmaaDoorLpQ9
import Derived.Test.YtkppbmfliejnmaaDoorLpQ8
import Derived.Test.YtkppbmfliejnmaaDoorLpQ20
namespace Go.Proofs.YtkppbmfliejnmaaDoor
open Go.RowKit

theorem pop8_bitsT : ∀ n : Fin 256, Lib.pop8 (n.val : Int) = ((bitsOf n.val).length : Int) := by decide +kernel
theorem bits_count (s : Nat) : (bitsOf s).length = (List.range 32).countP fun i => s.testBit i := by
  unfold bitsOf
  rw [List.countP_eq_length_filter]
theorem bits_split (s : Nat) (hs : s < 65536) : (bitsOf s).length = (bitsOf (s / 256)).length + (bitsOf (s % 256)).length := by
  rw [bits_count, bits_count, bits_count]
  have e1 : List.range 32 = List.range 8 ++ (List.range 24).map (8 + ·) := by decide
  have e2 : List.range 32 = List.range 24 ++ (List.range 8).map (24 + ·) := by decide
  have h1 : (List.range 32).countP (fun i => (s % 256).testBit i) = (List.range 8).countP fun i => s.testBit i := by
    rw [e1, List.countP_append, List.countP_map]
    have a : (List.range 8).countP (fun i => (s % 256).testBit i) = (List.range 8).countP fun i => s.testBit i := List.countP_congr fun i hi => by
      have := List.mem_range.1 hi
      rw [show 256 = 2 ^ 8 by decide, Nat.testBit_mod_two_pow]
      simp [this]
    have b : (List.range 24).countP ((fun i => (s % 256).testBit i) ∘ (8 + ·)) = 0 := List.countP_eq_zero.2 fun i _ => by
      simp only [Function.comp]
      rw [show 256 = 2 ^ 8 by decide, Nat.testBit_mod_two_pow]
      simp
      intro h
      omega
    rw [a, b, Nat.add_zero]
  have h2 : (List.range 32).countP (fun i => (s / 256).testBit i) = (List.range 24).countP fun i => s.testBit (8 + i) := by
    rw [e2, List.countP_append, List.countP_map]
    have a : (List.range 24).countP (fun i => (s / 256).testBit i) = (List.range 24).countP fun i => s.testBit (8 + i) := List.countP_congr fun i _ => by
      rw [show 256 = 2 ^ 8 by decide, Nat.testBit_div_two_pow, Nat.add_comm]
    have b : (List.range 8).countP ((fun i => (s / 256).testBit i) ∘ (24 + ·)) = 0 := List.countP_eq_zero.2 fun i _ => by
      simp only [Function.comp]
      have : (s / 256).testBit (24 + i) = false := Nat.testBit_lt_two_pow (Nat.lt_of_lt_of_le (show s / 256 < 2 ^ 24 by omega) (Nat.pow_le_pow_right (by decide) (by omega)))
      simp [this]
    rw [a, b, Nat.add_zero]
  rw [h1, h2, e1, List.countP_append, List.countP_map, Nat.add_comm]
  rfl

set_option maxRecDepth 100000 in
set_option maxHeartbeats 1000000 in
theorem ones16_any (s : Nat) (hs : s < 65536) (w : World) :
    Calls Tryd.prog 233 #[.int .u32 s] w fun e w' => e = .returned (.int .i64 (bitsOf s).length) ∧ ∃ q, w' = w.drewN q := by
  obtain ⟨q, hq⟩ : ∃ q, q = s / 256 := ⟨_, rfl⟩
  obtain ⟨r, hr⟩ : ∃ r, r = s % 256 := ⟨_, rfl⟩
  have h24 : (s : Int) / 16777216 = 0 := by omega
  have h16 : (s : Int) / 65536 = 0 := by omega
  have h8 : (s : Int) / 256 = (q : Int) := by omega
  have k24 : (s : Int) / 2 ^ 24 = 0 := by omega
  have k16 : (s : Int) / 2 ^ 16 = 0 := by omega
  have k8 : (s : Int) / 2 ^ 8 = (q : Int) := by omega
  have a0 : bits BinOp.and IntKind.u32 0 255 = 0 := by decide
  have a255 : bits BinOp.and IntKind.u32 (s : Int) 255 = (r : Int) := by
    have e := u32_and_nat s 255 (by omega) (by decide)
    have e2 : s &&& 255 = r := by
      have := Nat.and_two_pow_sub_one_eq_mod s 8
      rw [show (2 ^ 8 - 1 : Nat) = 255 by decide] at this
      omega
    rw [e2] at e
    exact e
  have aq : bits BinOp.and IntKind.u32 (q : Int) 255 = (q : Int) := by
    have e := u32_and_nat q 255 (by omega) (by decide)
    have e2 : q &&& 255 = q := by
      have := Nat.and_two_pow_sub_one_eq_mod q 8
      rw [show (2 ^ 8 - 1 : Nat) = 255 by decide] at this
      omega
    rw [e2] at e
    exact e
  have HH : Hid ((Lib.pop8 0 + Lib.pop8 0 + Lib.pop8 (q : Int) + Lib.pop8 (r : Int)) % 256 = ((bitsOf s).length : Int)) := Lib.hid (by
    have e0 : Lib.pop8 0 = 0 := by decide +kernel
    have e1 := pop8_bitsT ⟨q, by omega⟩
    have e2 := pop8_bitsT ⟨r, by omega⟩
    have e3 := bits_split s hs
    have e4 := bitsOf_length s
    rw [← hq, ← hr] at e3
    simp only at e1 e2
    rw [e0, e1, e2]
    omega)
  have i0 : (0 : Int) ≤ (r : Int) := by omega
  have i1 : (r : Int) ≤ 255 := by omega
  have j0 : (0 : Int) ≤ (q : Int) := by omega
  have j1 : (q : Int) ≤ 255 := by omega
  clear hq hr
  go_enter Tryd.func233, Tryd.ntmps233
  go_wp2
  go_quiet (fail)
  go_wp2
  go_ret
  exact ⟨by rw [← HH.out]; rfl, _, rfl⟩

set_option maxHeartbeats 400000 in
theorem size16_any (z : Int) (s : Nat) (hz : z = s) (hs : s < 65536) (w : World) :
    Calls Tryd.prog 191 #[.int .u32 z] w fun e w' => e = .returned (.int .i64 (bitsOf s).length) ∧ ∃ q, w' = w.drewN q := by
  subst hz
  go_enter Tryd.func191, Tryd.ntmps191
  go_wp2_with (go_at_call 233; refine (ones16_any s hs _).mono ?_; rintro e w2 ⟨rfl, q, rfl⟩)
  go_ret
  exact ⟨rfl, _, rfl⟩

theorem decide_decT {p q : Prop} [Decidable p] (h : p ↔ q) : decide p = dec q := by
  by_cases k : q
  · rw [dec_true k]; simpa using h.2 k
  · rw [dec_false k]; simpa using fun x => k (h.1 x)
/-! ### Edges left -/
theorem bits0_deg {n : Nat} (hn : n ≤ 16) {E : Nat → Nat → Bool} {v s : Nat} (hs : s < 65536) (hb : ∀ j, s.testBit j = (decide (j < n) && E v j)) : s = 0 ↔ degN n E v = 0 := by
  rw [← bits_deg hn hs hb]
  constructor
  · intro h; subst h; rfl
  · intro h
    have h1 : bitsOf s = [] := List.eq_nil_of_length_eq_zero h
    rw [← mask_bitsOf hs, h1]
    rfl

end Go.Proofs.YtkppbmfliejnmaaDoor

/- Walks: whether the program finds a loop at all; its result. -/
namespace Go.Proofs.YtkppbmfliejnmaaDoor
open Go.RowKit

theorem owns_shapeLp {w : World} {base : Nat} {E : TypeId} {size n : Nat} {v : Value} {xs : List Value} (h : w.ownsRow base E size v n xs) : ∃ p c, v = .slice p n c := by
  rcases h.2 with ⟨rfl, rfl⟩ | ⟨g, cap, cur, rfl, _⟩
  · exact ⟨_, _, rfl⟩
  · exact ⟨_, _, rfl⟩
theorem sum_snocLp (f : Nat → Nat) (k : Nat) : ((List.range (k + 1)).map f).sum = ((List.range k).map f).sum + f k := by simp [List.range_succ]
theorem sum_leLp (f : Nat → Nat) (m : Nat) (hf : ∀ x, f x ≤ m) : ∀ k, ((List.range k).map f).sum ≤ k * m
  | 0 => by simp
  | k + 1 => by
    rw [sum_snocLp, Nat.succ_mul]
    exact Nat.add_le_add (sum_leLp f m hf k) (hf k)

set_option maxRecDepth 100000 in
set_option maxHeartbeats 4000000 in
theorem hasLoop_any (x : Value) (g : List (List Int)) (hok : GOk g) (w : World) (hx : NE w x g.length (ofG g)) (hT : Tab w) :
    Calls Tryd.prog 161 #[x] w fun e w' => e = .returned (.bool (dec (∃ L, LpOk g.length (ofG g) L))) ∧ Below w.heap.size w w' := by
  obtain ⟨hp, hc, rfl⟩ : ∃ p c, x = .slice p g.length c := by obtain ⟨p, c, e, _⟩ := hx.sl; exact ⟨p, c, e⟩
  have h16 := hok.le
  have HX := Lib.hid hx
  have HT := Lib.hid hT
  have HOK := Lib.hid hok
  obtain ⟨n, hn⟩ : ∃ n, n = g.length := ⟨_, rfl⟩
  have HN := Lib.hid hn
  rw [← hn] at HX h16 ⊢
  clear hx hT hok hn
  go_enter Tryd.func161, Tryd.ntmps161
  go_wp2_with fail
  go_loopw [3, 8] (fun sv kv wr => ∃ k : Nat, k ≤ n ∧ kv = .int .i64 (k : Int) ∧ sv = .int .i64 (((List.range k).map (degN n (ofG g))).sum : Nat) ∧ Hid (Below w.heap.size w wr)) (fun _ kv _ => n - (intOf kv).toNat)
  case atStart => exact ⟨0, Nat.zero_le _, rfl, rfl, Lib.hid (Below.refl _ _)⟩
  case round =>
    obtain ⟨k, hk, rfl, rfl, HB⟩ := hrel
    by_cases hlt : k < n
    · obtain ⟨nb, no, a, rfl, hca, ha16, hab⟩ := (HX.out.next HB.out).get hlt
      have SIZE : Hid (∀ wz, Calls Tryd.prog 191 #[.int .u32 (a : Int)] wz fun e w' => e = .returned (.int .i64 (degN n (ofG g) k : Nat)) ∧ ∃ q, w' = wz.drewN q) := Lib.hid fun wz => by
        have := size16_any _ a rfl ha16 wz
        rw [bits_deg h16 ha16 hab] at this
        exact this
      have hd := degN_le n (ofG g) k
      have hsum := sum_leLp (degN n (ofG g)) 16 (fun x => Nat.le_trans (degN_le n (ofG g) x) h16) k
      have hst : Hid (((List.range (k + 1)).map (degN n (ofG g))).sum = ((List.range k).map (degN n (ofG g))).sum + degN n (ofG g) k) := Lib.hid (sum_snocLp _ _)
      generalize ((List.range k).map (degN n (ofG g))).sum = S at *
      generalize degN n (ofG g) k = dk at *
      have hwr : IntKind.i64.wrap ((S : Int) + (dk : Int)) = ((S + dk : Nat) : Int) := by rw [IntKind.wrap_i64]; omega
      have hki : (k : Int) < (n : Int) := by omega
      clear hab
      go_wp2_with (go_at_call 191; refine (SIZE.out _).mono ?_; rintro e w2 ⟨rfl, q, rfl⟩)
      go_roundw
      case rel => exact ⟨k + 1, by omega, by go_num, by rw [hst.out]; first | rfl | go_num, Lib.hid (HB.out.trans (below_dN (Below.refl _ _) _))⟩
      case measure => simp [intOf]; omega
    · obtain rfl : k = n := by omega
      obtain ⟨m, hm⟩ : ∃ m, m = cntE g g.length := ⟨_, rfl⟩
      have htot : ((List.range k).map (degN k (ofG g))).sum = 2 * m := by rw [HN.out, hm]; exact two_cntE HOK.out
      have hm16 : 2 * m ≤ 256 := by rw [← htot]; exact totN_le h16 (ofG g)
      have hedn : m = (edN g.length (ofG g) g.length).length := by rw [hm]; exact cntE_edN HOK.out _ (Nat.le_refl _)
      have HED := Lib.hid hedn
      rw [htot]
      have hdiv : Int.tdiv ((2 * m : Nat) : Int) 2 = (m : Int) := by
        have h := (Int.ofNat_tdiv (2 * m) 2).symm
        rw [show ((2 : Nat) : Int) = 2 from rfl] at h
        rw [h, Nat.mul_div_cancel_left m (by decide)]
      have hwm : IntKind.i64.wrap (m : Int) = (m : Int) := by rw [IntKind.wrap_i64]; omega
      clear htot hm hedn
      obtain ⟨M, hM⟩ : ∃ M, M = 2 ^ k - 1 := ⟨_, rfl⟩
      have hM16 : M < 65536 := by
        have : 2 ^ k ≤ 2 ^ 16 := Nat.pow_le_pow_right (by decide) h16
        have := Nat.two_pow_pos k
        omega
      have HM := Lib.hid hM
      have HBT : Hid (bitsOf M = List.range g.length) := Lib.hid (by
        rw [← HN.out]
        refine rising_ext _ _ (bitsOf_rising _) List.pairwise_lt_range fun x => ?_
        rw [mem_left hM16, hM, Nat.testBit_two_pow_sub_one, List.mem_range]
        simp)
      clear hM
      generalize h2m : ((2 * m : Nat) : Int) = mm at *
      go_wp2_with (first
        | (go_at_call 106; refine (all_any hp k hc (by omega) _).mono ?_; rintro e w2 ⟨rfl, rfl⟩; rw [← HM.out])
        | (go_at_call 212; refine (partsOf_any _ _ k (ofG g) M rfl hM16 (fun i hi => by rw [HM.out, Nat.testBit_two_pow_sub_one] at hi; simpa using hi) _ (HX.out.next HB.out) (HT.out.keep HB.out)).mono ?_; rintro e w3 ⟨ov, ps, rfl, hps, hown, hpl, _, _, hb3⟩; obtain ⟨op, oc, rfl⟩ := owns_shapeLp hown; have hps2 := hps; rw [HBT.out] at hps2; have hwp : IntKind.i64.wrap ((k : Int) - (ps.length : Int)) = (k : Int) - (ps.length : Int) := by rw [IntKind.wrap_i64]; omega))
      go_ret
      refine ⟨?_, HB.out.trans (hb3.mono HB.out.size)⟩
      have hfl := (forest_loop (ofG_sym HOK.out) (ofG_irr HOK.out) hps2).2
      rw [← HED.out, ← HN.out] at hfl
      congr 2
      by_cases h : ∃ L, LpOk k (ofG g) L
      · rw [dec_true h]
        have := hfl.2 h
        simp; omega
      · rw [dec_false h]
        have : ¬ k < m + ps.length := fun e => h (hfl.1 e)
        simp; omega

set_option maxRecDepth 100000 in
set_option maxHeartbeats 1000000 in
theorem loopResult_any (v : Value) (o : Option (List Nat)) (w : World) (h0 : o = none → v = .slice none 0 0) (h1 : ∀ L, o = some L → Nums w 3 .i64 v (natInts L) ∧ 0 < L.length) :
    Calls Tryd.prog 162 #[v] w fun e w' => ∃ u, e = .returned u ∧ Nums w' 2 .i64 u (natInts (o.getD [])) ∧ Below w.heap.size w w' := by
  cases o with
  | none =>
    obtain rfl := h0 rfl
    clear h0 h1
    have hnl : ∀ w, Sem.run Tryd.prog (binOp BinOp.eql 93 (.slice none 0 0) (.slice none 0 0)) w = .ok (.bool true) w := fun w => rfl
    go_enter Tryd.func162, Tryd.ntmps162
    go_wp2
    go_ret
    exact ⟨_, rfl, Sl.nothing _ _ _ _ (fun _ => rfl), below_dN (Below.refl _ _) 0⟩
  | some L =>
    obtain ⟨hn, hpos⟩ := h1 L rfl
    obtain ⟨p, c, rfl, _⟩ := id hn.shape
    obtain ⟨b, o, e, _⟩ := hn.get (k := 0) (by rw [natInts_length]; exact hpos)
    have HN := Lib.hid hn
    subst e
    have hl : (natInts L).length ≤ 1000000000 := by obtain ⟨_, _, e, _, _, h, _⟩ := hn; exact h
    clear h0 h1 hn
    have hnl : ∀ w, Sem.run Tryd.prog (binOp BinOp.eql 93 (.slice (some ⟨b, o, none⟩) L.length c) (.slice none 0 0)) w = .ok (.bool false) w := fun w => rfl
    rw [natInts_length] at HN ⊢
    go_enter Tryd.func162, Tryd.ntmps162
    go_wp2_with (go_at_call 125; refine (wide_any _ (natInts L) _ HN.out).mono ?_; rintro e w2 ⟨u, rfl, ho, hb⟩)
    go_ret
    exact ⟨_, rfl, Nums.of_owns ho rfl hl, hb⟩

end Go.Proofs.YtkppbmfliejnmaaDoor

/- Walks: the program's tests of a set, and of a connected one; the masks of several sets. -/
namespace Go.Proofs.YtkppbmfliejnmaaDoor
open Go.RowKit

set_option maxRecDepth 100000 in
set_option maxHeartbeats 1000000 in
theorem implSetOk_any (v lv : Value) (g : List (List Int)) (s : List Int) (hgl : g.length ≤ 1000000000) (w : World) (hg : Gr w v g) (hn : Nums w 2 .i64 lv s) :
    Calls Tryd.prog 95 #[v, lv] w fun e w' => e = .returned (.bool (dec (GOk g ∧ SetIn g.length s))) ∧ Below w.heap.size w w' := by
  have hg0 := hg
  obtain ⟨u, rfl, hr⟩ := hg
  obtain ⟨p, c, rfl, _⟩ := hr.shape
  have hbA := Lib.hid (below_alloc w (.cells #[.slice p g.length c] 29))
  have HG := Lib.hid (hg0.below hbA.out)
  have HN := Lib.hid (hn.below hbA.out)
  have BX := Lib.hid (Box.new w (.slice p g.length c) 29)
  clear hr hg0 hn
  by_cases hok : GOk g
  · have hd := Lib.hid (dec_true hok)
    have HD : Hid (dec (SetIn g.length s) = dec (GOk g ∧ SetIn g.length s)) := Lib.hid (dec_congr ⟨fun h => ⟨hok, h⟩, fun h => h.2⟩)
    clear hok
    go_enter Tryd.func95, Tryd.ntmps95
    go_wp2_with (first
      | (go_at_call 87; refine (implGraphOk_any _ g _ HG.out).mono ?_; rintro e w2 ⟨he, hb2⟩; rw [hd.out] at he; subst he; have hbx := (BX.out.keep hb2).cell)
      | (go_at_call 177; refine (increasing_any _ s g.length (by omega) (by omega) _ (HN.out.below hb2)).mono ?_; rintro e w3 ⟨he3, hw3⟩; rw [HD.out] at he3; subst he3; subst hw3))
    go_ret
    exact ⟨rfl, hbA.out.trans (hb2.mono hbA.out.size)⟩
  · have hd := Lib.hid (dec_false hok)
    have HD := Lib.hid (dec_false (show ¬ (GOk g ∧ SetIn g.length s) from fun h => hok h.1))
    clear hok
    go_enter Tryd.func95, Tryd.ntmps95
    go_wp2_with (go_at_call 87; refine (implGraphOk_any _ g _ HG.out).mono ?_; rintro e w2 ⟨he, hb2⟩; rw [hd.out] at he; subst he)
    go_ret
    exact ⟨by rw [HD.out]; rfl, hbA.out.trans (hb2.mono hbA.out.size)⟩

set_option maxRecDepth 100000 in
set_option maxHeartbeats 1000000 in
theorem connected_any (x : Value) (z : Int) (n : Nat) (E : Nat → Nat → Bool) (W : Nat) (hz : z = W) (hW : W < 65536) (hWn : ∀ i, W.testBit i = true → i < n) (w : World) (hx : NE w x n E) (hT : Tab w) :
    Calls Tryd.prog 176 #[x, .int .u32 z] w fun e w' => e = .returned (.bool (dec (ConnL E (bitsOf W)))) ∧ Below w.heap.size w w' := by
  subst hz
  by_cases h0 : W = 0
  · subst h0
    have HD := Lib.hid (dec_false (show ¬ ConnL E (bitsOf 0) by rw [bitsOf_zero]; exact not_connL_nil E))
    go_enter Tryd.func176, Tryd.ntmps176
    go_wp2
    go_ret
    exact ⟨by rw [HD.out]; rfl, Below.refl _ _⟩
  · have h0' : ((W : Int) != 0) = true := by simp; omega
    have hst := bitsOf_step W h0 (by omega)
    obtain ⟨hub, _, _⟩ := testBit_ctz W h0 (by omega)
    obtain ⟨u, hu⟩ : ∃ u, u = Lib.ctz 32 W := ⟨_, rfl⟩
    rw [← hu] at hst hub
    have HU := Lib.hid hu
    have HUB := Lib.hid hub
    have H0 := Lib.hid h0
    have HX := Lib.hid hx
    have HT := Lib.hid hT
    have HWN := Lib.hid hWn
    have HEQ : Hid (∀ m : Nat, m < 65536 → (∀ i, m.testBit i = true ↔ i ∈ partL E (bitsOf W) u) → ((m : Int) == (W : Int)) = dec (ConnL E (bitsOf W))) := Lib.hid (fun m hm hmb => by
      have hi : ConnL E (bitsOf W) ↔ m = W := by
        rw [hst, connL_part, ← hst]
        constructor
        · intro e
          refine Nat.eq_of_testBit_eq fun i => ?_
          rw [Bool.eq_iff_iff, hmb i, e, mem_left hW]
        · rintro rfl
          refine rising_ext _ _ (partL_rising (bitsOf_rising _) u) (bitsOf_rising _) fun i => ?_
          rw [← hmb i, mem_left hW]
      by_cases e : m = W
      · rw [dec_true (hi.2 e), e]; simp
      · rw [dec_false (fun k => e (hi.1 k))]
        simp
        omega)
    clear hu hub h0 hst hx hT hWn
    go_enter Tryd.func176, Tryd.ntmps176
    go_wp2_with (first
      | (go_at_call 219; refine (reach_any _ _ _ n E u W rfl rfl hW HWN.out HUB.out _ HX.out HT.out).mono ?_; rintro e w4 ⟨m, rfl, hm16, hmb, hb4⟩; have hme := HEQ.out m hm16 hmb; clear hmb)
      | (go_at_call 185; refine (least_any _ W rfl H0.out (by omega) _ HT.out).mono ?_; rintro e w3 ⟨he3, rfl⟩; rw [← HU.out] at he3; subst he3))
    go_ret
    exact ⟨ret_bool (by first | exact hme | rfl | (rw [hme])), hb4⟩

/-- A connected set of a right graph. -/
def ConnS (g : List (List Int)) (s : List Int) : Prop := (GOk g ∧ SetIn g.length s) ∧ ConnL (ofG g) (s.map Int.toNat)
theorem setIn_nats {n : Nat} {s : List Int} (h : SetIn n s) : natInts (s.map Int.toNat) = s ∧ (s.map Int.toNat).Pairwise (· < ·) ∧ ∀ x ∈ s.map Int.toNat, x < n := by
  refine ⟨?_, ?_, ?_⟩
  · unfold natInts
    rw [List.map_map]
    conv => rhs; rw [← List.map_id s]
    exact List.map_congr_left fun x hx => Int.toNat_of_nonneg (h.1 x hx).1
  · refine List.pairwise_map.2 (h.2.imp_of_mem fun {a b} ha hb k => ?_)
    have := (h.1 a ha).1
    have := (h.1 b hb).1
    omega
  · intro x hx
    obtain ⟨y, hy, rfl⟩ := List.mem_map.1 hx
    have := h.1 y hy
    omega
theorem bits_maskS {n : Nat} {s : List Int} (hn : n ≤ 16) (h : SetIn n s) : bitsOf (mask s) = s.map Int.toNat := by
  obtain ⟨h1, h2, h3⟩ := setIn_nats h
  conv => lhs; rw [← h1]
  exact bitsOf_maskN h2 fun x hx => by have := h3 x hx; omega


theorem ty_vsets' : SlTy Tryd.prog 72 70 (.int .u32 0) 1 4 := ⟨Tryd.underlying72, by kernel_rfl, rfl, by decide, by decide⟩

end Go.Proofs.YtkppbmfliejnmaaDoor

/- Walk: the program folds. -/
namespace Go.Proofs.YtkppbmfliejnmaaDoor
open Go.RowKit

/-- Sets of neighbours that the walk can go on with. -/
structure NOk (a : List Nat) (left : Nat) : Prop where
  le : a.length ≤ 16
  lt : ∀ s ∈ a, s < 65536
  left16 : left < 65536
  inn : ∀ v, left.testBit v = true → v < a.length

theorem near_in {a : List Nat} {left v : Nat} (h : NOk a left) : ∀ x ∈ nearL a left v, ∃ i : Nat, x = (i : Int) ∧ i < a.length := by
  intro x hx
  obtain ⟨i, rfl, _, h2⟩ := (mem_near h.left16).1 hx
  exact ⟨i, rfl, h.inn i h2⟩

theorem NOk.pair {a : List Nat} {left v : Nat} (h : NOk a left) (h2 : (nearL a left v).length ≤ 2) {f : Fd} (hf : f = atRow v (nearL a left v)) (hB : 0 ≤ f.B) :
    ∃ p q : Nat, f.A = p ∧ f.B = q ∧ p < a.length ∧ q < a.length ∧ p ≠ q := by
  obtain ⟨_, hAB⟩ := atRow_cases (v : Int) (near_rising a left v) h2 (fun x hx => by obtain ⟨i, rfl, _⟩ := near_in h x hx; omega)
  rw [← hf] at hAB
  rcases hAB with ⟨k, _⟩ | ⟨hA, hB', h3, h4, h5⟩
  · omega
  · obtain ⟨p, hp, hpl⟩ := near_in h _ hA
    obtain ⟨q, hq, hql⟩ := near_in h _ hB'
    exact ⟨p, q, hp, hq, hpl, hql, by omega⟩

theorem NOk.away {a : List Nat} {left v : Nat} (h : NOk a left) (hv : left.testBit v = true) (h2 : (nearL a left v).length ≤ 2) {f : Fd} (hf : f = atRow v (nearL a left v)) : NOk (awayL a f) (sub left (2 ^ v)) := by
  have hle := h.le
  have hvl := h.inn v hv
  refine ⟨by rw [awayL_length]; exact hle, ?_, sub_lt16 _ _ h.left16, fun u hu => ?_⟩
  · by_cases hB : 0 ≤ f.B
    · obtain ⟨p, q, hp, hq, hpl, hql, _⟩ := h.pair h2 hf hB
      have e : awayL a f = joinL a p q := by
        show (if _ then _ else _) = _
        rw [if_pos hB, hp, hq, Int.toNat_natCast, Int.toNat_natCast]
      rw [e]
      exact joinL_lt16 h.lt (by omega) (by omega)
    · have e : awayL a f = a := if_neg hB
      rw [e]; exact h.lt
  · rw [awayL_length]
    exact h.inn u ((testBit_sub1 h.left16 (by omega) u).1 hu).1

theorem bits_sub_lt {left v : Nat} (h : left < 65536) (hv : left.testBit v = true) (h16 : v < 16) : (bitsOf (sub left (2 ^ v))).length < (bitsOf left).length := by
  have h1 := list_sub h h16
  have h2 : ((v : Nat) : Int) ∈ natInts (bitsOf left) := mem_natInts.2 ⟨v, (mem_left h).2 hv, rfl⟩
  have h3 := lessL_length_lt h2
  rw [h1, natInts_length, natInts_length] at h3
  exact h3

theorem grown_own {w w' w'' : World} {E : TypeId} {size n : Nat} {v : Value} {xs : List Value} {r : Option Nat} (h : w.grownBy w' r) (ho : w'.ownsRow w.heap.size E size v n xs) (hg : w'.grownBy w'' v.ownBlock) : w.grownBy w'' r :=
  ⟨hg.os.trans h.os, hg.tape.trans h.tape, hg.output.trans h.output, Nat.le_trans h.size hg.size, fun k hk hne => (hg.block k (Nat.lt_of_lt_of_le hk h.size) (fun e => by have := (ho.lt k e.symm).1; omega)).trans (h.block k hk hne)⟩

theorem Tab.grown {w w' : World} {r : Option Nat} (h : Tab w) (hg : w.grownBy w' r) (hr : some 0 ≠ r) : Tab w' := fun j hj => hg.cell (a := ⟨_, j, none⟩) (h j hj) hr

theorem Sl.shape {w : World} {E : TypeId} {v : Value} {n : Nat} {vals : List Value} (h : Sl w E v n vals) : ∃ p c, v = .slice p n c := by
  obtain ⟨p, c, e, _⟩ := h
  exact ⟨p, c, e⟩

end Go.Proofs.YtkppbmfliejnmaaDoor

/- Walks: the program's isSeries, SeriesIn, FoldedOf, TwoOrder. -/
namespace Go.Proofs.YtkppbmfliejnmaaDoor
open Go.RowKit

theorem all_any' (p : Option Addr) (n c M : Nat) (hn : n < 32) (hM : M = 2 ^ n - 1) (w : World) :
    Calls Tryd.prog 106 #[.slice p n c] w fun e w' => e = .returned (.int .u32 (M : Int)) ∧ w = w' := by
  subst hM; exact all_any p n c hn w

theorem bits_nil {l : Nat} (h : l < 65536) : (bitsOf l).length = 0 ↔ l = 0 := by
  constructor
  · intro e
    by_cases h0 : l = 0
    · exact h0
    · have := bitsOf_step l h0 (by omega)
      rw [this] at e
      simp at e
  · rintro rfl; rw [bitsOf_zero]; rfl

theorem nOk_start {g : List (List Int)} (h : GOk g) {M : Nat} (hM : M = 2 ^ g.length - 1) : NOk (netL g) M ∧ (bitsOf M).length ≤ 16 ∧ (netL g).length = g.length := by
  subst hM
  have hs := same_start h
  refine ⟨⟨hs.le, hs.lt, hs.left16, hs.inn⟩, ?_, hs.len.symm⟩
  have := natInts_range g.length h.le
  rw [← natInts_length, this, allL_length]
  exact h.le

theorem foldsN_S {g : List (List Int)} (h : GOk g) {M : Nat} (hM : M = 2 ^ g.length - 1) {fs : List Fd} {l : Nat} {a' : List Nat} (hf : FoldsN (netL g) M fs l a') : ∃ g', Folds g (allL g.length) fs (natInts (bitsOf l)) g' := by
  subst hM
  obtain ⟨g', h1, _⟩ := hf.same (same_start h)
  exact ⟨g', h1⟩

end Go.Proofs.YtkppbmfliejnmaaDoor

/- Walks: the program's least loop: all lengths, all first vertices. -/
namespace Go.Proofs.YtkppbmfliejnmaaDoor
open Go.RowKit

theorem LsI.start (w1 : World) (hv fv : Value) (long v us : Nat) : LsI w1 ((w1.alloc (.cells #[.int .i64 (v : Int)] 3)).alloc (.cells #[hv, fv, .int .i64 (long : Int), .slice (some ⟨w1.heap.size, 0, none⟩) 1 1, .int .u32 (us : Int), .func (.func 164) #[] #[]] 164)) hv fv long [v] us (.slice (some ⟨w1.heap.size, 0, none⟩) 1 1) where
  bel := below_alloc2 w1 _ _
  cs := by
    have := LS.new (v0 := hv) (v1 := fv) (v2 := .int .i64 (long : Int)) (v3 := .slice (some ⟨w1.heap.size, 0, none⟩) 1 1) (v4 := .int .u32 (us : Int)) (v5 := .func (.func 164) #[] #[]) (w1.alloc (.cells #[.int .i64 (v : Int)] 3))
    rw [size_alloc] at this
    exact this
  ord := by
    have h : (w1.alloc (.cells #[.int .i64 (v : Int)] 3)).ownsRow w1.heap.size 3 1 (.slice (some ⟨w1.heap.size, 0, none⟩) 1 1) 1 [.int .i64 (v : Int)] := World.ownsRow_lit w1 #[.int .i64 (v : Int)] 1 (Nat.le_refl _) (by decide) rfl
    exact ownsRow_below h (below_alloc _ _)
  ne := fun k hk => by
    have : w1.heap.size = k := by simpa [Value.ownBlock] using hk
    omega

theorem neOfLp {g : List (List Int)} (hok : GOk g) {w : World} {base : Nat} {x : Value} (h : w.ownsRow base 70 1 x g.length ((netL g).map u32v)) : NE w x g.length (ofG g) :=
  ⟨hok.le, by rw [indN_ofG hok]; exact Sl.of_owns h (by have := hok.le; omega)⟩

set_option maxRecDepth 100000 in
set_option maxHeartbeats 8000000 in
theorem smallestLoop_any (x : Value) (n : Nat) (E : Nat → Nat → Bool) (hs : ∀ x y, E x y = true → E y x = true) (hE : ∀ x y, E x y = true → y < n) (w : World) (hx : NE w x n E) (hT : Tab w) :
    Calls Tryd.prog 163 #[x, .int .i64 3, .int .i64 1, .func (.func 164) #[] #[]] w fun e w' => ∃ (v : Value), e = .returned v ∧ Below w.heap.size w w' ∧ ∃ o : Option (List Nat), (o = none → v = .slice none 0 0 ∧ ¬ ∃ L, LpOk n E L) ∧ (∀ L, o = some L → Nums w' 3 .i64 v (natInts L) ∧ LeastLp n E L) := by
  have n16 := hx.le
  obtain ⟨hp, hc, rfl⟩ : ∃ p c, x = .slice p n c := by obtain ⟨p, c, e, _⟩ := hx.sl; exact ⟨p, c, e⟩
  have HNE := Lib.hid hx
  have HT := Lib.hid hT
  have HE := Lib.hid hE
  have HS := Lib.hid hs
  clear hx hT hE hs
  obtain ⟨M, hM⟩ : ∃ M, M = 2 ^ n - 1 := ⟨_, rfl⟩
  have HM := Lib.hid hM
  have hM16 : M < 65536 := by
    have h2 : 2 ^ n ≤ 2 ^ 16 := Nat.pow_le_pow_right (by decide) n16
    have h3 : 0 < 2 ^ n := Nat.two_pow_pos n
    omega
  clear hM
  have ALL : Hid (∀ (wz : World), Calls Tryd.prog 106 #[.slice hp n hc] wz fun e w' => e = .returned (.int .u32 (M : Int)) ∧ wz = w') := Lib.hid fun wz => all_any' hp n hc M (by omega) HM.out wz
  have HMN : Hid (∀ u, M.testBit u = true → u < n) := Lib.hid fun u hu => by rw [HM.out, Nat.testBit_two_pow_sub_one] at hu; simpa using hu
  have HIW : Hid (inW M = fun x => x < n) := Lib.hid (by
    funext u
    unfold inW
    rw [HM.out, Nat.testBit_two_pow_sub_one]
    simp)
  go_enter Tryd.func163, Tryd.ntmps163
  go_wp2_with fail
  go_loopw [9] (fun lv wr => ∃ l : Nat, 3 ≤ l ∧ l ≤ n + 3 ∧ lv = .int .i64 (l : Int) ∧ Hid (∀ k, 3 ≤ k → k < l → ∀ x, x < n → NoLp n E k x) ∧ Hid (Below w.heap.size w wr)) (fun lv _ => n + 1 - (intOf lv).toNat)
  case atStart => exact ⟨3, Nat.le_refl _, by omega, rfl, Lib.hid (fun k h1 h2 => by omega), Lib.hid (Below.refl _ _)⟩
  case round =>
    obtain ⟨l, hl3, hln, rfl, HNL, HB⟩ := hrel
    by_cases hle : l ≤ n
    · have hli : (l : Int) ≤ (n : Int) := by omega
      go_wp2_with fail
      go_loopw [22] (fun kv wx => ∃ k : Nat, k ≤ n ∧ kv = .int .i64 (k : Int) ∧ Hid (∀ x, x < k → NoLp n E l x) ∧ Hid (Below w.heap.size w wx)) (fun kv _ => n - (intOf kv).toNat)
      case atStart => exact ⟨0, Nat.zero_le _, rfl, Lib.hid (fun x h => by omega), HB⟩
      case round =>
        clear HB
        obtain ⟨v, hvn, rfl, HNV, HB⟩ := hrel
        by_cases hvl : v < n
        · have hvi : (v : Int) < (n : Int) := by omega
          have HNr := Lib.hid (HNE.out.next HB.out)
          have HTr := Lib.hid (HT.out.keep HB.out)
          have hMv : M.testBit v = true := by rw [HM.out, Nat.testBit_two_pow_sub_one]; simpa using hvl
          obtain ⟨pv, hpv⟩ : ∃ pv, pv = 2 ^ v := ⟨_, rfl⟩
          have ONE : Hid (∀ w, Calls Tryd.prog 156 #[.int .i64 (v : Int)] w fun e w' => e = .returned (.int .u32 (pv : Int)) ∧ w = w') := Lib.hid (by rw [hpv]; exact fun w => one_any (v : Int) v rfl (by omega) w)
          have I1 : Hid (pv = mask (natInts [v])) := Lib.hid (by
            have := mask_appLp [] v
            rw [List.nil_append] at this
            rw [this, hpv]
            exact (Nat.zero_or _).symm)
          obtain ⟨res, hres⟩ : ∃ res, res = lpF n E (l - 1) [v] := ⟨_, rfl⟩
          have HRES := Lib.hid hres
          clear hpv hres
          go_upto_region 8 with (first
            | (go_at_call 156; refine (ONE.out _).mono ?_; rintro e w5 ⟨rfl, rfl⟩)
            | (go_at_call 213; refine (distances_any _ _ _ n v M E rfl rfl n16 HE.out hM16 HMN.out hMv _ HNr.out HTr.out).mono ?_; rintro e wd ⟨kb, D, rfl, hkb, ho7, hd7, hD7, hb7⟩; have HO7 := Lib.hid ho7; have HD7 := Lib.hid hD7; have HB7 := Lib.hid hb7; clear hb7 ho7 hD7 hkb)
            | (go_at_call 106; refine (ALL.out _).mono ?_; rintro e w4 ⟨rfl, rfl⟩))
          have HND := Lib.hid (HNr.out.next HB7.out)
          have HTD := Lib.hid (HTr.out.keep HB7.out)
          have HBD := Lib.hid (HB.out.trans (HB7.out.mono HB.out.size))
          have HCD : Hid (∀ u, u < n → wd.cell? ⟨kb, u, none⟩ = some (.int .i64 (D.getD u 0))) := Lib.hid (fun u hu => by
            rw [HO7.out.cellAt u (by omega)]
            simp [hd7, hu])
          have HDD : Hid (∀ u, u < n → IsD E (fun x => x < n) v u (D.getD u 0)) := Lib.hid (fun u hu => by
            have := (HD7.out u hu).1
            rwa [HIW.out] at this)
          have HST := Lib.hid (LsI.start wd (.slice hp n hc) (.slice (some ⟨kb, 0, none⟩) n n) l v pv)
          have GROW : Hid (∀ wz, LsI wd wz (.slice hp n hc) (.slice (some ⟨kb, 0, none⟩) n n) l [v] pv (.slice (some ⟨wd.heap.size, 0, none⟩) 1 1) → Calls Tryd.prog 214 #[.pointer (some ⟨wd.heap.size + 1, 0, none⟩)] wz fun e w' => e = .returned (.bool res.isSome) ∧ ∃ us' ov', LsI wd w' (.slice hp n hc) (.slice (some ⟨kb, 0, none⟩) n n) l (res.getD [v]) us' ov') := Lib.hid (fun wz hI => by
            have := lpGrow_any wd hp hc n l kb v E D HS.out HE.out HND.out HTD.out HCD.out HDD.out hle (l - 1) [v] pv _ wz I1.out (fun x hx => by rw [List.mem_singleton] at hx; omega) rfl (by simp) (by simp) trivial (by simp; omega) hI
            rw [← HRES.out] at this
            exact this.mono fun e w' ⟨h1, us', ov', h2, _, _⟩ => ⟨h1, us', ov', h2⟩)
          clear HO7 HD7 HB7 hd7 HNr HTr
          cases res with
          | none =>
            have HNX : Hid (∀ x, x < v + 1 → NoLp n E l x) := Lib.hid (fun x hx => by
              by_cases e : x < v
              · exact HNV.out x e
              · obtain rfl : x = v := by omega
                exact HRES.out.symm)
            go_wp2_with (go_at_call 214; refine (GROW.out _ HST.out).mono ?_; rintro e w9 ⟨he, us', ov', hI9⟩; change e = Ending.returned (.bool false) at he; subst he; have HB9 := Lib.hid (HBD.out.trans (hI9.bel.mono HBD.out.size)); clear hI9)
            go_roundw
            case rel => exact ⟨v + 1, by omega, by go_num, HNX, HB9⟩
            case measure => simp [intOf]; omega
          | some L =>
            have HLL := Lib.hid (first_loop hl3 hvl HNL.out HNV.out HRES.out.symm)
            go_upto_region 9 with (go_at_call 214; refine (GROW.out _ HST.out).mono ?_; rintro e w9 ⟨he, us', ov', hI9⟩; change e = Ending.returned (.bool true) at he; subst he; have HB9 := Lib.hid (HBD.out.trans (hI9.bel.mono HBD.out.size)); have HI9 := Lib.hid hI9; have hc3 := hI9.cs.c3; clear hI9)
            go_wp2_with fail
            go_ret
            have hI := HI9.out
            have hll := nodup_le n L HLL.out.1.1.nod HLL.out.1.1.inn
            exact ⟨_, rfl, HB9.out, some L, (fun e => by cases e), fun K hK => by
              cases hK
              exact ⟨Nums.of_owns hI.ord (natInts_length _).symm (by show L.length ≤ _; omega), HLL.out.1⟩⟩
        · obtain rfl : v = n := by omega
          have HNX : Hid (∀ k, 3 ≤ k → k < l + 1 → ∀ x, x < v → NoLp v E k x) := Lib.hid (fun k h1 h2 x hx => by
            by_cases e : k < l
            · exact HNL.out k h1 e x hx
            · obtain rfl : k = l := by omega
              exact HNV.out x hx)
          go_wp2_with fail
          go_roundw
          case rel => exact ⟨l + 1, by omega, by omega, by go_num, HNX, HB⟩
          case measure => simp [intOf]; omega
    · have HNO := Lib.hid (none_loop (n := n) (E := E) fun k h1 h2 x hx => HNL.out k h1 (by omega) x hx)
      have hli : ¬ (l : Int) ≤ (n : Int) := by omega
      go_wp2_with fail
      go_ret
      exact ⟨_, rfl, HB.out, none, fun _ => ⟨rfl, fun L h => HNO.out ⟨L, h⟩⟩, fun L h => by cases h⟩

set_option maxRecDepth 100000 in
set_option maxHeartbeats 8000000 in
theorem implLeastLoop_any (v : Value) (g : List (List Int)) (w : World) (hg : Gr w v g) (hT : Tab w) :
    Calls Tryd.prog 71 #[v] w fun e w' => ∃ u l, e = .returned u ∧ LpS g l ∧ l.length ≤ 16 ∧ Nums w' 2 .i64 u l ∧ Below w.heap.size w w' := by
  have hg0 := Lib.hid hg
  obtain ⟨_, rfl, hr⟩ := hg
  obtain ⟨ga, gc, rfl, _⟩ := hr.shape
  obtain ⟨w1, hw1⟩ : ∃ w1, w1 = w.alloc (.cells #[.slice ga g.length gc] 29) := ⟨_, rfl⟩
  have HX : Hid (Box w1 w.heap.size 29 (.slice ga g.length gc)) := Lib.hid (by rw [hw1]; exact Box.new _ _ _)
  have HB1 : Hid (Below w.heap.size w w1) := Lib.hid (by rw [hw1]; exact below_alloc _ _)
  have HG1 := Lib.hid (hg0.out.below HB1.out)
  have HT1 := Lib.hid (hT.keep HB1.out)
  clear hr hT hg0
  by_cases hok : GOk g
  case neg =>
    have HD := Lib.hid (dec_false hok)
    have HOK := Lib.hid hok
    clear hok
    go_enter Tryd.func71, Tryd.ntmps71
    go_upto_region 1 with fail
    rw [← hw1]
    clear hw1
    have c1 := HX.out.cell
    go_wp2_with (go_at_call 87; refine (implGraphOk_any _ g _ HG1.out).mono ?_; rintro e w2 ⟨he, hb2⟩; rw [HD.out] at he; subst he)
    go_ret
    exact ⟨_, [], rfl, .inr ⟨.inl HOK.out, rfl⟩, by simp, Sl.nothing _ _ _ _ (fun _ => rfl), HB1.out.trans (hb2.mono HB1.out.size)⟩
  have HD := Lib.hid (dec_true hok)
  have HOK := Lib.hid hok
  have HS := Lib.hid (ofG_sym hok)
  have HE : Hid (∀ x y, ofG g x y = true → y < g.length) := Lib.hid fun x y e => by
    refine Classical.byContradiction fun hn => ?_
    have e2 := ofG_sym hok _ _ e
    unfold ofG at e2
    rw [row_out hn] at e2
    simp at e2
  have hn16 := hok.le
  clear hok
  by_cases hlp : ∃ L, LpOk g.length (ofG g) L
  case neg =>
    have HDL := Lib.hid (dec_false hlp)
    have HLP := Lib.hid hlp
    clear hlp
    go_enter Tryd.func71, Tryd.ntmps71
    go_upto_region 1 with fail
    rw [← hw1]
    clear hw1
    have c1 := HX.out.cell
    go_wp2_with (first
      | (go_at_call 87; refine (implGraphOk_any _ g _ HG1.out).mono ?_; rintro e w2 ⟨he, hb2⟩; rw [HD.out] at he; subst he; have c2 := hb2.at' c1)
      | (go_at_call 89; refine (netsOf_any _ g _ (HG1.out.below hb2) HOK.out).mono ?_; rintro e w3 ⟨xv, rfl, ho3, hb3⟩; have HNE := Lib.hid (neOfLp HOK.out ho3); have HB3 : Hid (Below w1.heap.size w1 w3) := Lib.hid (hb2.trans (hb3.mono hb2.size)); clear ho3)
      | (go_at_call 161; refine (hasLoop_any _ g HOK.out _ HNE.out (HT1.out.keep HB3.out)).mono ?_; rintro e w4 ⟨he, hb4⟩; rw [HDL.out] at he; subst he))
    go_ret
    exact ⟨_, [], rfl, .inr ⟨.inr HLP.out, rfl⟩, by simp, Sl.nothing _ _ _ _ (fun _ => rfl), HB1.out.trans ((HB3.out.trans (hb4.mono HB3.out.size)).mono HB1.out.size)⟩
  have HDL := Lib.hid (dec_true hlp)
  have HLP := Lib.hid hlp
  clear hlp
  go_enter Tryd.func71, Tryd.ntmps71
  go_upto_region 1 with fail
  rw [← hw1]
  clear hw1
  have c1 := HX.out.cell
  go_upto_region 3 with (first
    | (go_at_call 87; refine (implGraphOk_any _ g _ HG1.out).mono ?_; rintro e w2 ⟨he, hb2⟩; rw [HD.out] at he; subst he; have c2 := hb2.at' c1)
    | (go_at_call 89; refine (netsOf_any _ g _ (HG1.out.below hb2) HOK.out).mono ?_; rintro e w3 ⟨xv, rfl, ho3, hb3⟩; have HNE := Lib.hid (neOfLp HOK.out ho3); have HB3 : Hid (Below w1.heap.size w1 w3) := Lib.hid (hb2.trans (hb3.mono hb2.size)); clear ho3)
    | (go_at_call 161; refine (hasLoop_any _ g HOK.out _ HNE.out (HT1.out.keep HB3.out)).mono ?_; rintro e w4 ⟨he, hb4⟩; rw [HDL.out] at he; subst he))
  have HB4 := Lib.hid (HB3.out.trans (hb4.mono HB3.out.size))
  have c4 := HB4.out.at' c1
  clear c1 c2 hb2 hb3 hb4 HB3 HNE
  go_wp2_with (first
    | (go_at_call 89; refine (netsOf_any _ g _ (HG1.out.below HB4.out) HOK.out).mono ?_; rintro e w5 ⟨yv, rfl, ho5, hb5⟩; have HNY := Lib.hid (neOfLp HOK.out ho5); have HB5 : Hid (Below w1.heap.size w1 w5) := Lib.hid (HB4.out.trans (hb5.mono HB4.out.size)); clear ho5)
    | (go_at_call 163; refine (smallestLoop_any _ g.length (ofG g) HS.out HE.out _ HNY.out (HT1.out.keep HB5.out)).mono ?_; rintro e w6 ⟨sv, rfl, hb6, o, ho1, ho2⟩; have HO1 := Lib.hid ho1; have HO2 := Lib.hid ho2; have HB6 : Hid (Below w1.heap.size w1 w6) := Lib.hid (HB5.out.trans (hb6.mono HB5.out.size)); clear ho1 ho2 hb6)
    | (go_at_call 162; refine (loopResult_any _ o _ (fun e => (HO1.out e).1) (fun L e => ⟨(HO2.out L e).1, by have := (HO2.out L e).2.1.long; omega⟩)).mono ?_; rintro e w7 ⟨rv, rfl, hn7, hb7⟩; have HN7 := Lib.hid hn7; clear hn7))
  go_ret
  obtain ⟨L, rfl⟩ : ∃ L, o = some L := by
    cases o with
    | none => exact absurd HLP.out (HO1.out rfl).2
    | some L => exact ⟨L, rfl⟩
  have hL := (HO2.out L rfl).2
  refine ⟨_, natInts L, rfl, .inl ⟨HOK.out, L, hL, rfl⟩, ?_, HN7.out, HB1.out.trans ((HB6.out.trans (hb7.mono HB6.out.size)).mono HB1.out.size)⟩
  rw [natInts_length]
  have := nodup_le g.length L hL.1.nod hL.1.inn
  omega

end Go.Proofs.YtkppbmfliejnmaaDoor
