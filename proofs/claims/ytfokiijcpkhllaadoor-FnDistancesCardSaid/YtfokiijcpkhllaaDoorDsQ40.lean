/- Walk: the program says whether a vertex may be pruned so. -/
import Derived.Test.YtfokiijcpkhllaaDoorDsQ6
import Derived.Test.YtfokiijcpkhllaaDoorDsQ13
import Derived.Test.YtfokiijcpkhllaaDoorDsQ3
import Derived.Deep.RegionHeld3
import Derived.Deep.DeepCutAuto
import Derived.Test.YtfokiijcpkhllaaDoorDsQ39
namespace Go.Proofs.YtfokiijcpkhllaaDoor
open Go.RowKit

theorem netL_lenP (g : List (List Int)) : (netL g).length = g.length := by simp [netL]

/-- What the walk needs of the sets. -/
structure NetI (w : World) (x : Value) (g : List (List Int)) (s : Nat) : Prop where
  ok : LOk g s
  sl : Sl w 64 x g.length ((netL g).map u32v)
theorem NetI.next {w w' : World} {x : Value} {g : List (List Int)} {s : Nat} (h : NetI w x g s) (hb : Below w.heap.size w w') : NetI w' x g s := ⟨h.ok, h.sl.below hb⟩
theorem NetI.get {w : World} {p : Option Addr} {n c : Nat} {g : List (List Int)} {s : Nat} (h : NetI w (.slice p n c) g s) {v : Nat} (hv : v < g.length) :
    ∃ (b o : Nat) (a : Int), p = some ⟨b, o, none⟩ ∧ w.cell? ⟨b, o + v, none⟩ = some (.int .u32 a) ∧ bits BinOp.and IntKind.u32 a (s : Int) = ((mask (row g v) &&& s : Nat) : Int) := by
  have hvl : v < (netL g).length := by rw [netL_lenP]; exact hv
  obtain ⟨b, o, h1, h2⟩ := nets_cell (a := netL g) (by rw [netL_lenP]; exact h.sl) hvl
  have h3 := and_near (netL_lt h.ok.ok) hvl h.ok.s16
  rw [netL_getD] at h3
  exact ⟨b, o, _, h1, h2, h3⟩

theorem goP_aloneN {g : List (List Int)} {s : Nat} (h : LOk g s) {v : Nat} (hv : v < g.length) : GoP g (natInts (bitsOf s)) v (-1) 1 ↔ mask (row g v) &&& s = 0 := by
  rw [alone_mask h hv]
  constructor
  · rintro (⟨_, _, h1⟩ | ⟨h1, _⟩)
    · rwa [Int.toNat_natCast] at h1
    · obtain ⟨i, e, _⟩ := (mem_bitsZ h.s16).1 h1
      omega
  · intro h1
    exact .inl ⟨rfl, rfl, by rw [Int.toNat_natCast]; exact h1⟩
theorem goP_oneN {g : List (List Int)} {L : List Int} {v b : Int} (hb : b ≠ -1) : ¬ GoP g L v b 1 := by
  rintro (⟨_, h, _⟩ | ⟨_, _, h⟩)
  · exact hb h
  · have := condP_kind h; omega
theorem goP_outN {g : List (List Int)} {L : List Int} {v b k : Int} (hk : 2 ≤ k) (hb : ¬ (b ∈ L ∧ b ≠ v)) : ¬ GoP g L v b k := by
  rintro (⟨h, _⟩ | ⟨h1, h2, _⟩)
  · omega
  · exact hb ⟨h1, h2⟩
theorem goP_twoN {g : List (List Int)} {s : Nat} (h : LOk g s) {v b : Nat} (hv : v < g.length) (hb : s.testBit b = true) (hvb : b ≠ v) : GoP g (natInts (bitsOf s)) v b 2 ↔ mask (row g v) &&& s = 2 ^ b := by
  rw [pend_mask h hv hb]
  constructor
  · rintro (⟨h1, _⟩ | ⟨_, _, h1⟩)
    · omega
    · rcases h1 with ⟨_, h1⟩ | ⟨h1, _⟩ | ⟨h1, _⟩
      · simpa only [Int.toNat_natCast] using h1
      · omega
      · omega
  · intro h1
    exact .inr ⟨(mem_bitsI h.s16).2 hb, by omega, .inl ⟨rfl, by simpa only [Int.toNat_natCast] using h1⟩⟩
theorem goP_threeN {g : List (List Int)} {s : Nat} (h : LOk g s) {v b : Nat} (hv : s.testBit v = true) (hb : s.testBit b = true) (hvb : b ≠ v) : GoP g (natInts (bitsOf s)) v b 3 ↔ mask (row g v) &&& s = mask (row g b) &&& s := by
  rw [false_mask h hv hb (fun e => hvb e.symm)]
  constructor
  · rintro (⟨h1, _⟩ | ⟨_, _, h1⟩)
    · omega
    · rcases h1 with ⟨h1, _⟩ | ⟨_, h1⟩ | ⟨h1, _⟩
      · omega
      · simpa only [Int.toNat_natCast] using h1
      · omega
  · intro h1
    exact .inr ⟨(mem_bitsI h.s16).2 hb, by omega, .inr (.inl ⟨rfl, by simpa only [Int.toNat_natCast] using h1⟩)⟩
theorem goP_fourN {g : List (List Int)} {s : Nat} (h : LOk g s) {v b : Nat} (hv : s.testBit v = true) (hb : s.testBit b = true) (hvb : b ≠ v) :
    GoP g (natInts (bitsOf s)) v b 4 ↔ ((mask (row g v) &&& s).testBit b = true ∧ sub (mask (row g v) &&& s) (2 ^ b) = sub (mask (row g b) &&& s) (2 ^ v)) := by
  rw [true_mask h hv hb (fun e => hvb e.symm)]
  constructor
  · rintro (⟨h1, _⟩ | ⟨_, _, h1⟩)
    · omega
    · rcases h1 with ⟨h1, _⟩ | ⟨h1, _⟩ | ⟨_, h1⟩
      · omega
      · omega
      · simpa only [Int.toNat_natCast] using h1
  · intro h1
    exact .inr ⟨(mem_bitsI h.s16).2 hb, by omega, .inr (.inr ⟨rfl, by simpa only [Int.toNat_natCast] using h1⟩)⟩

set_option maxRecDepth 100000 in
set_option maxHeartbeats 2000000 in
theorem canPrune_one (p : Option Addr) (c : Nat) (y z b : Int) (g : List (List Int)) (s v : Nat) (hy : y = s) (hz : z = v) (hv : s.testBit v = true) (w : World) (hx : NetI w (.slice p g.length c) g s) :
    Calls Tryd.prog 138 #[.slice p g.length c, .int .u32 y, .int .i64 z, .int .i64 b, .int .i64 1] w fun e w' => e = .returned (.bool (dec (GoP g (natInts (bitsOf s)) v b 1))) ∧ Below w.heap.size w w' := by
  subst hy; subst hz
  have hvl := hx.ok.inn v hv
  obtain ⟨ab, ao, av, rfl, hc, hand⟩ := hx.get hvl
  have HO := Lib.hid hx.ok
  have e0 : (0 : Int) ≤ (v : Int) := by omega
  have e1 : (v : Int) < (g.length : Int) := by omega
  clear hx hv
  by_cases hb : b = -1
  · subst hb
    have HE := Lib.hid (dec_congr (goP_aloneN HO.out hvl))
    generalize mask (row g v) &&& s = M at hand HE
    by_cases h0 : M = 0
    · have h0' : ((M : Int) == 0) = true := by simp [h0]
      have H0 := Lib.hid h0
      clear h0
      go_enter Tryd.func138, Tryd.ntmps138
      go_wp2
      go_ret
      exact ⟨ret_bool (by rw [HE.out]; exact true_dec H0.out), Below.refl _ _⟩
    · have h0' : ((M : Int) == 0) = false := by simpa using h0
      have H0 := Lib.hid h0
      clear h0
      go_enter Tryd.func138, Tryd.ntmps138
      go_wp2
      go_ret
      exact ⟨ret_bool (by rw [HE.out]; exact false_dec H0.out), Below.refl _ _⟩
  · have hb' : (b == -1) = false := by simpa using hb
    have HB := Lib.hid hb
    clear hb
    go_enter Tryd.func138, Tryd.ntmps138
    go_wp2
    go_ret
    exact ⟨ret_bool (false_dec (goP_oneN HB.out)), Below.refl _ _⟩

set_option maxRecDepth 100000 in
set_option maxHeartbeats 2000000 in
theorem canPrune_out (p : Option Addr) (c : Nat) (y z b k : Int) (g : List (List Int)) (s v : Nat) (hy : y = s) (hz : z = v) (hv : s.testBit v = true) (h2 : 2 ≤ k) (h4 : k ≤ 4) (hbl : -1 ≤ b ∧ b < g.length) (hb : ¬ (b ∈ natInts (bitsOf s) ∧ b ≠ v)) (w : World) (hx : NetI w (.slice p g.length c) g s) :
    Calls Tryd.prog 138 #[.slice p g.length c, .int .u32 y, .int .i64 z, .int .i64 b, .int .i64 k] w fun e w' => e = .returned (.bool (dec (GoP g (natInts (bitsOf s)) v b k))) ∧ Below w.heap.size w w' := by
  subst hy; subst hz
  have hvl := hx.ok.inn v hv
  obtain ⟨ab, ao, av, rfl, hc, hand⟩ := hx.get hvl
  have HO := Lib.hid hx.ok
  have h16 := hx.ok.ok.le
  have hs16 := hx.ok.s16
  have HE := Lib.hid (dec_false (goP_outN (g := g) h2 hb))
  have e0 : (0 : Int) ≤ (v : Int) := by omega
  have e1 : (v : Int) < (g.length : Int) := by omega
  have hk1 : (k == 1) = false := by simp; omega
  have hwr : IntKind.i64.wrap ((g.length : Int) - 1) = (g.length : Int) - 1 := by rw [IntKind.wrap_i64]; omega
  have HB := Lib.hid hb
  clear hx hv hb
  generalize mask (row g v) &&& s = M at hand
  by_cases hr : 0 ≤ b ∧ b ≤ (g.length : Int) - 1
  case neg =>
    have hd := dec_false hr
    clear hr
    go_enter Tryd.func138, Tryd.ntmps138
    go_wp2_with (go_at_call 70; refine (inRange_any _ _ _ _).mono ?_; rintro e w2 ⟨he, rfl⟩; rw [hd] at he; subst he)
    go_ret
    exact ⟨ret_bool HE.out.symm, Below.refl _ _⟩
  have hd := dec_true hr
  obtain ⟨n, rfl⟩ : ∃ n : Nat, b = (n : Int) := ⟨b.toNat, (Int.toNat_of_nonneg hr.1).symm⟩
  have hn16 : n < 32 := by omega
  clear hr
  by_cases hbv : n = v
  · have hbv' : (((n : Nat) : Int) == ((v : Nat) : Int)) = true := by simp [hbv]
    clear hbv
    go_enter Tryd.func138, Tryd.ntmps138
    go_wp2_with (go_at_call 70; refine (inRange_any _ _ _ _).mono ?_; rintro e w2 ⟨he, rfl⟩; rw [hd] at he; subst he)
    go_ret
    exact ⟨ret_bool HE.out.symm, Below.refl _ _⟩
  · have hbv' : (((n : Nat) : Int) == ((v : Nat) : Int)) = false := by simpa using fun e => hbv (by omega)
    have hbit : s.testBit n = false := by
      rw [Bool.eq_false_iff]
      intro h
      exact HB.out ⟨(mem_bitsI hs16).2 h, by omega⟩
    clear hbv
    go_enter Tryd.func138, Tryd.ntmps138
    go_wp2_with (first
      | (go_at_call 70; refine (inRange_any _ _ _ _).mono ?_; rintro e w2 ⟨he, rfl⟩; rw [hd] at he; subst he)
      | (go_at_call 71; refine (has_any _ _ s n rfl rfl (by omega) hn16 _).mono ?_; rintro e w3 ⟨he, rfl⟩; rw [hbit] at he; subst he))
    go_ret
    exact ⟨ret_bool HE.out.symm, Below.refl _ _⟩

set_option maxRecDepth 100000 in
set_option maxHeartbeats 2000000 in
theorem canPrune_two (p : Option Addr) (c : Nat) (y z : Int) (g : List (List Int)) (s v b : Nat) (hy : y = s) (hz : z = v) (hv : s.testBit v = true) (hb : s.testBit b = true) (hbv : b ≠ v) (w : World) (hx : NetI w (.slice p g.length c) g s) :
    Calls Tryd.prog 138 #[.slice p g.length c, .int .u32 y, .int .i64 z, .int .i64 b, .int .i64 2] w fun e w' => e = .returned (.bool (dec (GoP g (natInts (bitsOf s)) v b 2))) ∧ Below w.heap.size w w' := by
  subst hy; subst hz
  have hvl := hx.ok.inn v hv
  have hbl := hx.ok.inn b hb
  obtain ⟨ab, ao, av, rfl, hc, hand⟩ := hx.get hvl
  obtain ⟨_, _, av2, e9, hc2, hand2⟩ := hx.get hbl
  cases e9
  have h16 := hx.ok.ok.le
  have hs16 := hx.ok.s16
  have HE := Lib.hid (dec_congr (goP_twoN hx.ok hvl hb hbv))
  have e0 : (0 : Int) ≤ (v : Int) := by omega
  have e1 : (v : Int) < (g.length : Int) := by omega
  have e2 : (0 : Int) ≤ (b : Int) := by omega
  have e3 : (b : Int) < (g.length : Int) := by omega
  have hwr : IntKind.i64.wrap ((g.length : Int) - 1) = (g.length : Int) - 1 := by rw [IntKind.wrap_i64]; omega
  have hd := dec_true (show 0 ≤ (b : Int) ∧ (b : Int) ≤ (g.length : Int) - 1 by omega)
  have hbv' : (((b : Nat) : Int) == ((v : Nat) : Int)) = false := by simpa using fun e => hbv (by omega)
  have hb32 : b < 32 := by omega
  have c1 := Lib.hid (fun w => one_any (b : Int) b rfl hb32 w)
  clear hx hv
  generalize mask (row g v) &&& s = M at hand HE
  generalize mask (row g b) &&& s = M2 at hand2
  generalize 2 ^ b = pb at *
  by_cases h0 : M = pb
  · have h0' : ((M : Int) == (pb : Int)) = true := by simp [h0]
    have H0 := Lib.hid h0
    clear h0
    go_enter Tryd.func138, Tryd.ntmps138
    go_wp2_with (first
      | (go_at_call 70; refine (inRange_any _ _ _ _).mono ?_; rintro e w2 ⟨he, rfl⟩; rw [hd] at he; subst he)
      | (go_at_call 74; refine (c1.out _).mono ?_; rintro e w4 ⟨rfl, rfl⟩)
      | (go_at_call 71; refine (has_any _ _ s b rfl rfl (by omega) hb32 _).mono ?_; rintro e w3 ⟨he, rfl⟩; rw [hb] at he; subst he))
    go_ret
    exact ⟨ret_bool (by rw [HE.out]; exact true_dec H0.out), Below.refl _ _⟩
  · have h0' : ((M : Int) == (pb : Int)) = false := by simpa using fun e => h0 (by omega)
    have H0 := Lib.hid h0
    clear h0
    go_enter Tryd.func138, Tryd.ntmps138
    go_wp2_with (first
      | (go_at_call 70; refine (inRange_any _ _ _ _).mono ?_; rintro e w2 ⟨he, rfl⟩; rw [hd] at he; subst he)
      | (go_at_call 74; refine (c1.out _).mono ?_; rintro e w4 ⟨rfl, rfl⟩)
      | (go_at_call 71; refine (has_any _ _ s b rfl rfl (by omega) hb32 _).mono ?_; rintro e w3 ⟨he, rfl⟩; rw [hb] at he; subst he))
    go_ret
    exact ⟨ret_bool (by rw [HE.out]; exact false_dec H0.out), Below.refl _ _⟩

end Go.Proofs.YtfokiijcpkhllaaDoor

/- Walk: the program says whether a vertex may be pruned as a twin. -/
namespace Go.Proofs.YtfokiijcpkhllaaDoor
open Go.RowKit

set_option maxRecDepth 100000 in
set_option maxHeartbeats 2000000 in
theorem canPrune_three (p : Option Addr) (c : Nat) (y z : Int) (g : List (List Int)) (s v b : Nat) (hy : y = s) (hz : z = v) (hv : s.testBit v = true) (hb : s.testBit b = true) (hbv : b ≠ v) (w : World) (hx : NetI w (.slice p g.length c) g s) :
    Calls Tryd.prog 138 #[.slice p g.length c, .int .u32 y, .int .i64 z, .int .i64 b, .int .i64 3] w fun e w' => e = .returned (.bool (dec (GoP g (natInts (bitsOf s)) v b 3))) ∧ Below w.heap.size w w' := by
  subst hy; subst hz
  have hvl := hx.ok.inn v hv
  have hbl := hx.ok.inn b hb
  obtain ⟨ab, ao, av, rfl, hc, hand⟩ := hx.get hvl
  obtain ⟨_, _, av2, e9, hc2, hand2⟩ := hx.get hbl
  cases e9
  have h16 := hx.ok.ok.le
  have hs16 := hx.ok.s16
  have HE := Lib.hid (dec_congr (goP_threeN hx.ok hv hb hbv))
  have e0 : (0 : Int) ≤ (v : Int) := by omega
  have e1 : (v : Int) < (g.length : Int) := by omega
  have e2 : (0 : Int) ≤ (b : Int) := by omega
  have e3 : (b : Int) < (g.length : Int) := by omega
  have hwr : IntKind.i64.wrap ((g.length : Int) - 1) = (g.length : Int) - 1 := by rw [IntKind.wrap_i64]; omega
  have hd := dec_true (show 0 ≤ (b : Int) ∧ (b : Int) ≤ (g.length : Int) - 1 by omega)
  have hbv' : (((b : Nat) : Int) == ((v : Nat) : Int)) = false := by simpa using fun e => hbv (by omega)
  have hb32 : b < 32 := by omega
  clear hx hv
  generalize mask (row g v) &&& s = M at hand HE
  generalize mask (row g b) &&& s = M2 at hand2 HE
  by_cases h0 : M = M2
  · have h0' : ((M : Int) == (M2 : Int)) = true := by simp [h0]
    have H0 := Lib.hid h0
    clear h0
    go_enter Tryd.func138, Tryd.ntmps138
    go_wp2_with (first
      | (go_at_call 70; refine (inRange_any _ _ _ _).mono ?_; rintro e w2 ⟨he, rfl⟩; rw [hd] at he; subst he)
      | (go_at_call 71; refine (has_any _ _ s b rfl rfl (by omega) hb32 _).mono ?_; rintro e w3 ⟨he, rfl⟩; rw [hb] at he; subst he))
    go_ret
    exact ⟨ret_bool (by rw [HE.out]; exact true_dec H0.out), Below.refl _ _⟩
  · have h0' : ((M : Int) == (M2 : Int)) = false := by simpa using fun e => h0 (by omega)
    have H0 := Lib.hid h0
    clear h0
    go_enter Tryd.func138, Tryd.ntmps138
    go_wp2_with (first
      | (go_at_call 70; refine (inRange_any _ _ _ _).mono ?_; rintro e w2 ⟨he, rfl⟩; rw [hd] at he; subst he)
      | (go_at_call 71; refine (has_any _ _ s b rfl rfl (by omega) hb32 _).mono ?_; rintro e w3 ⟨he, rfl⟩; rw [hb] at he; subst he))
    go_ret
    exact ⟨ret_bool (by rw [HE.out]; exact false_dec H0.out), Below.refl _ _⟩

set_option maxRecDepth 100000 in
set_option maxHeartbeats 4000000 in
theorem canPrune_four (p : Option Addr) (c : Nat) (y z : Int) (g : List (List Int)) (s v b : Nat) (hy : y = s) (hz : z = v) (hv : s.testBit v = true) (hb : s.testBit b = true) (hbv : b ≠ v) (w : World) (hx : NetI w (.slice p g.length c) g s) :
    Calls Tryd.prog 138 #[.slice p g.length c, .int .u32 y, .int .i64 z, .int .i64 b, .int .i64 4] w fun e w' => e = .returned (.bool (dec (GoP g (natInts (bitsOf s)) v b 4))) ∧ Below w.heap.size w w' := by
  subst hy; subst hz
  have hvl := hx.ok.inn v hv
  have hbl := hx.ok.inn b hb
  obtain ⟨ab, ao, av, rfl, hc, hand⟩ := hx.get hvl
  obtain ⟨_, _, av2, e9, hc2, hand2⟩ := hx.get hbl
  cases e9
  have h16 := hx.ok.ok.le
  have hs16 := hx.ok.s16
  have HE := Lib.hid (dec_congr (goP_fourN hx.ok hv hb hbv))
  have e0 : (0 : Int) ≤ (v : Int) := by omega
  have e1 : (v : Int) < (g.length : Int) := by omega
  have e2 : (0 : Int) ≤ (b : Int) := by omega
  have e3 : (b : Int) < (g.length : Int) := by omega
  have hwr : IntKind.i64.wrap ((g.length : Int) - 1) = (g.length : Int) - 1 := by rw [IntKind.wrap_i64]; omega
  have hd := dec_true (show 0 ≤ (b : Int) ∧ (b : Int) ≤ (g.length : Int) - 1 by omega)
  have hbv' : (((b : Nat) : Int) == ((v : Nat) : Int)) = false := by simpa using fun e => hbv (by omega)
  have hb32 : b < 32 := by omega
  have hv32 : v < 32 := by omega
  have c1 := Lib.hid (fun w => one_any (b : Int) b rfl hb32 w)
  have c2 := Lib.hid (fun w => one_any (v : Int) v rfl hv32 w)
  have m1 : mask (row g v) &&& s < 4294967296 := Nat.lt_of_le_of_lt Nat.and_le_right (by omega)
  have m2 : mask (row g b) &&& s < 4294967296 := Nat.lt_of_le_of_lt Nat.and_le_right (by omega)
  have a1 : bits BinOp.andNot IntKind.u32 ((mask (row g v) &&& s : Nat) : Int) ((2 ^ b : Nat) : Int) = ((sub (mask (row g v) &&& s) (2 ^ b) : Nat) : Int) := u32_andNot_nat (mask (row g v) &&& s) (2 ^ b) m1 (pow_lt32 b hb32)
  have a2 : bits BinOp.andNot IntKind.u32 ((mask (row g b) &&& s : Nat) : Int) ((2 ^ v : Nat) : Int) = ((sub (mask (row g b) &&& s) (2 ^ v) : Nat) : Int) := u32_andNot_nat (mask (row g b) &&& s) (2 ^ v) m2 (pow_lt32 v hv32)
  have HH := Lib.hid (fun w => has_any ((mask (row g v) &&& s : Nat) : Int) (b : Int) (mask (row g v) &&& s) b rfl rfl m1 hb32 w)
  clear hx hv
  generalize mask (row g v) &&& s = M at hand HE a1 m1 HH
  generalize mask (row g b) &&& s = M2 at hand2 HE a2 m2
  generalize 2 ^ b = pb at *
  generalize 2 ^ v = pv at *
  go_enter Tryd.func138, Tryd.ntmps138
  go_upto_region 13 with (first
    | (go_at_call 70; refine (inRange_any _ _ _ _).mono ?_; rintro e w2 ⟨he, rfl⟩; rw [hd] at he; subst he)
    | (go_at_call 71; refine (has_any _ _ s b rfl rfl (by omega) hb32 _).mono ?_; rintro e w3 ⟨he, rfl⟩; rw [hb] at he; subst he))
  by_cases hM : M.testBit b = true
  case neg =>
    have hM := Bool.eq_false_iff.2 hM
    have HM := Lib.hid hM
    go_wp2_with (go_at_call 71; refine (HH.out _).mono ?_; rintro e w4 ⟨he, rfl⟩; rw [hM] at he; subst he)
    go_ret
    exact ⟨ret_bool (by rw [HE.out]; exact false_dec fun h => by rw [HM.out] at h; exact absurd h.1 (by decide)), Below.refl _ _⟩
  have HM := Lib.hid hM
  by_cases h0 : sub M pb = sub M2 pv
  · have h0' : (((sub M pb : Nat) : Int) == ((sub M2 pv : Nat) : Int)) = true := by simp [h0]
    have HF := Lib.hid (HE.out.trans (dec_true ⟨hM, h0⟩))
    clear h0
    generalize sub M pb = x1 at *
    generalize sub M2 pv = x2 at *
    go_wp2_with (first
      | (go_at_call 71; refine (HH.out _).mono ?_; rintro e w4 ⟨he, rfl⟩; rw [hM] at he; subst he)
      | (go_at_call 74; refine (c1.out _).mono ?_; rintro e w5 ⟨rfl, rfl⟩)
      | (go_at_call 74; refine (c2.out _).mono ?_; rintro e w6 ⟨rfl, rfl⟩))
    go_ret
    exact ⟨ret_bool HF.out.symm, Below.refl _ _⟩
  · have h0' : (((sub M pb : Nat) : Int) == ((sub M2 pv : Nat) : Int)) = false := by simpa using fun e => h0 (by omega)
    have HF := Lib.hid (HE.out.trans (dec_false fun h => h0 h.2))
    clear h0
    generalize sub M pb = x1 at *
    generalize sub M2 pv = x2 at *
    go_wp2_with (first
      | (go_at_call 71; refine (HH.out _).mono ?_; rintro e w4 ⟨he, rfl⟩; rw [hM] at he; subst he)
      | (go_at_call 74; refine (c1.out _).mono ?_; rintro e w5 ⟨rfl, rfl⟩)
      | (go_at_call 74; refine (c2.out _).mono ?_; rintro e w6 ⟨rfl, rfl⟩))
    go_ret
    exact ⟨ret_bool HF.out.symm, Below.refl _ _⟩

end Go.Proofs.YtfokiijcpkhllaaDoor

/- Walks: the program prunes. -/
namespace Go.Proofs.YtfokiijcpkhllaaDoor
open Go.RowKit

theorem canPrune_any (p : Option Addr) (c : Nat) (y z b k : Int) (g : List (List Int)) (s v : Nat) (hy : y = s) (hz : z = v) (hv : s.testBit v = true) (h1 : 1 ≤ k) (h4 : k ≤ 4) (hbl : -1 ≤ b ∧ b < g.length) (w : World) (hx : NetI w (.slice p g.length c) g s) :
    Calls Tryd.prog 138 #[.slice p g.length c, .int .u32 y, .int .i64 z, .int .i64 b, .int .i64 k] w fun e w' => e = .returned (.bool (dec (GoP g (natInts (bitsOf s)) v b k))) ∧ Below w.heap.size w w' := by
  by_cases hk : k = 1
  · subst hk
    exact canPrune_one p c y z b g s v hy hz hv w hx
  by_cases hb : b ∈ natInts (bitsOf s) ∧ b ≠ v
  · obtain ⟨n, rfl, hn⟩ := (mem_bitsZ hx.ok.s16).1 hb.1
    have hnv : n ≠ v := fun e => hb.2 (by rw [e])
    have hK : k = 2 ∨ k = 3 ∨ k = 4 := by omega
    rcases hK with rfl | rfl | rfl
    · exact canPrune_two p c y z g s v n hy hz hv hn hnv w hx
    · exact canPrune_three p c y z g s v n hy hz hv hn hnv w hx
    · exact canPrune_four p c y z g s v n hy hz hv hn hnv w hx
  · exact canPrune_out p c y z b k g s v hy hz hv (by omega) h4 hbl hb w hx

theorem goP_range {g : List (List Int)} {s : Nat} (h : LOk g s) {v b k : Int} (hg : GoP g (natInts (bitsOf s)) v b k) : -1 ≤ b ∧ b < g.length := by
  rcases hg with ⟨_, h1, _⟩ | ⟨h1, _⟩
  · omega
  · obtain ⟨i, rfl, hi⟩ := (mem_bitsZ h.s16).1 h1
    have := h.inn i hi
    omega

set_option maxRecDepth 100000 in
set_option maxHeartbeats 4000000 in
theorem pruneOf_any (p : Option Addr) (c : Nat) (y z : Int) (g : List (List Int)) (s v : Nat) (hy : y = s) (hz : z = v) (hv : s.testBit v = true) (w : World) (hx : NetI w (.slice p g.length c) g s) :
    Calls Tryd.prog 110 #[.slice p g.length c, .int .u32 y, .int .i64 z] w fun e w' => ∃ r, PrS g (natInts (bitsOf s)) v r ∧ e = .returned (.tuple #[prOut r, .bool r.isSome]) ∧ Below w.heap.size w w' := by
  subst hy; subst hz
  have h16 := hx.ok.ok.le
  have HX := Lib.hid hx
  have HV := Lib.hid hv
  have RB := Lib.hid (Box3.new w (.int .i64 0) (.int .i64 0) (.int .i64 0) 129)
  have hb1 := Lib.hid (below_alloc w (.cells #[.int .i64 0, .int .i64 0, .int .i64 0] 129))
  have hlen : g.length ≤ 1000000000 := by omega
  clear hx hv
  go_enter Tryd.func110, Tryd.ntmps110
  go_wp2
  go_loopw [8] (fun i wr => ∃ K : Int, 1 ≤ K ∧ K ≤ 5 ∧ i = .int .i64 K ∧ (∀ k' b, k' < K → ¬ GoP g (natInts (bitsOf s)) v b k') ∧ Below w.heap.size w wr ∧ Box3 wr w.heap.size 129 (.int .i64 0) (.int .i64 0) (.int .i64 0)) (fun i _ => (5 - intOf i).toNat)
  case atStart => exact ⟨1, by omega, by omega, rfl, fun k' b h hgo => by have := goP_kind hgo; omega, hb1.out, RB.out⟩
  case round =>
    obtain ⟨K, hK1, hK5, rfl, hno, hbel, hbx⟩ := hrel
    have HNO := Lib.hid hno
    have HBel := Lib.hid hbel
    have HBx := Lib.hid hbx
    clear hno hbel hbx
    by_cases hK : K ≤ 4
    · go_wp2_with fail
      go_loopw [9] (fun i wx => ∃ b : Int, -1 ≤ b ∧ b ≤ g.length ∧ i = .int .i64 b ∧ (∀ b', b' < b → ¬ GoP g (natInts (bitsOf s)) v b' K) ∧ Below w.heap.size w wx ∧ Box3 wx w.heap.size 129 (.int .i64 0) (.int .i64 0) (.int .i64 0)) (fun i _ => ((g.length : Int) - intOf i).toNat)
      case atStart => exact ⟨-1, by omega, by omega, rfl, fun b' h hgo => by have := goP_range HX.out.ok hgo; omega, HBel.out, HBx.out⟩
      case round =>
        clear HBel HBx
        obtain ⟨b, hb1, hb2, rfl, hno, hbel, hbx⟩ := hrel
        have HNO2 := Lib.hid hno
        have HBel := Lib.hid hbel
        have HBx := Lib.hid hbx
        clear hno hbel hbx
        by_cases hlt : b < g.length
        · by_cases hgo : GoP g (natInts (bitsOf s)) v b K
          · have hd := dec_true hgo
            have HGO := Lib.hid hgo
            clear hgo
            go_wp2_with (go_at_call 138; refine (canPrune_any p c s v b K g s v rfl rfl HV.out hK1 hK ⟨hb1, hlt⟩ _ (HX.out.next HBel.out)).mono ?_; rintro e w4 ⟨he, hb4⟩; rw [hd] at he; subst he; obtain ⟨r0, r1, r2⟩ := (HBx.out.keep hb4).cells; have rf := (HBx.out.keep hb4).free)
            obtain ⟨s0, s1, s2⟩ := ((HBx.out.keep hb4).set (.int .i64 v) (.int .i64 b) (.int .i64 K)).cells
            refine bodyPost_ret (v := .tuple #[.agg #[.int .i64 v, .int .i64 b, .int .i64 K], .bool true]) (by simp [results, Tryd.results110, go_sem, s0, s1, s2]) rfl ⟨some ⟨v, b, K⟩, ⟨rfl, HGO.out, ?_⟩, rfl, ?_⟩
            · rintro k' b' (h | ⟨h, hb⟩)
              · exact HNO.out k' b' h
              · simp only at h hb
                subst h
                exact HNO2.out b' hb
            · exact (HBel.out.trans (hb4.mono HBel.out.size)).trans (set3_belowP (B := w.heap.size) _ _ _ _ (Nat.le_refl _))
          · have hd := dec_false hgo
            have HGO := Lib.hid hgo
            clear hgo
            go_wp2_with (go_at_call 138; refine (canPrune_any p c s v b K g s v rfl rfl HV.out hK1 hK ⟨hb1, hlt⟩ _ (HX.out.next HBel.out)).mono ?_; rintro e w4 ⟨he, hb4⟩; rw [hd] at he; subst he)
            go_roundw
            case rel =>
              refine ⟨b + 1, by omega, by omega, by go_num, fun b' h => ?_, HBel.out.trans (hb4.mono HBel.out.size), HBx.out.keep hb4⟩
              by_cases e : b' = b
              · subst e; exact HGO.out
              · exact HNO2.out b' (by omega)
            case measure => simp [intOf]; omega
        · obtain rfl : b = g.length := by omega
          go_wp2
          go_roundw
          case rel =>
            refine ⟨K + 1, by omega, by omega, by go_num, fun k' b h hgo => ?_, HBel.out, HBx.out⟩
            by_cases e : k' = K
            · subst e
              exact HNO2.out b (goP_range HX.out.ok hgo).2 hgo
            · exact HNO.out k' b (by omega) hgo
          case measure => simp [intOf]; omega
    · obtain rfl : K = 5 := by omega
      obtain ⟨r0, r1, r2⟩ := HBx.out.cells
      have rf := HBx.out.free
      go_wp2
      obtain ⟨s0, s1, s2⟩ := (HBx.out.set (.int .i64 0) (.int .i64 0) (.int .i64 0)).cells
      refine bodyPost_ret (v := .tuple #[.agg #[.int .i64 0, .int .i64 0, .int .i64 0], .bool false]) (by simp [results, Tryd.results110, go_sem, s0, s1, s2]) rfl ⟨none, fun k' b hgo => ?_, rfl, ?_⟩
      · have := goP_kind hgo
        exact HNO.out k' b (by omega) hgo
      · exact HBel.out.trans (set3_belowP (B := w.heap.size) _ _ _ _ (Nat.le_refl _))

end Go.Proofs.YtfokiijcpkhllaaDoor
