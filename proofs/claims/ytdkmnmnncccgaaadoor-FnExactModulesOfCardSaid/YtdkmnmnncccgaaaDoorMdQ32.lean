/- Walk: the program says whether a vertex may be pruned so. -/
import Derived.Test.YtdkmnmnncccgaaaDoorMdQ20
import Derived.Test.YtdkmnmnncccgaaaDoorMdQ16
import Derived.Test.YtdkmnmnncccgaaaDoorMdQ3
import Derived.Test.YtdkmnmnncccgaaaDoorMdQ4
import Derived.Deep.RegionHeld3
import Derived.Deep.DeepCutAuto
namespace Go.Proofs.YtdkmnmnncccgaaaDoor
open Go.RowKit

theorem netL_lenP (g : List (List Int)) : (netL g).length = g.length := by simp [netL]

/-- What the walk needs of the sets. -/
structure NetI (w : World) (x : Value) (g : List (List Int)) (s : Nat) : Prop where
  ok : LOk g s
  sl : Sl w 50 x g.length ((netL g).map u32v)
theorem NetI.next {w w' : World} {x : Value} {g : List (List Int)} {s : Nat} (h : NetI w x g s) (hb : Below w.heap.size w w') : NetI w' x g s := ⟨h.ok, h.sl.below hb⟩
theorem NetI.get {w : World} {p : Option Addr} {n c : Nat} {g : List (List Int)} {s : Nat} (h : NetI w (.slice p n c) g s) {v : Nat} (hv : v < g.length) :
    ∃ (b o : Nat) (a : Int), p = some ⟨b, o, none⟩ ∧ w.cell? ⟨b, o + v, none⟩ = some (.int .u32 a) ∧ bits BinOp.and IntKind.u32 a (s : Int) = ((mask (row g v) &&& s : Nat) : Int) := by
  have hvl : v < (netL g).length := by rw [netL_lenP]; exact hv
  obtain ⟨b, o, h1, h2⟩ := nets_cell (a := netL g) (by rw [netL_lenP]; exact h.sl) hvl
  have h3 := and_near (netL_lt h.ok.ok) hvl h.ok.s16
  rw [netL_getD] at h3
  exact ⟨b, o, _, h1, h2, h3⟩

theorem goP_aloneN {g : List (List Int)} {s : Nat} (h : LOk g s) {v : Nat} (hv : v < g.length) : GoP g (natInts (bitsOf s)) v (-1) 1 ↔ mask (row g v) &&& s = 0 := by
  rw [alone_mask h hv]
  constructor
  · rintro (⟨_, _, h1⟩ | ⟨h1, _⟩)
    · rwa [Int.toNat_natCast] at h1
    · obtain ⟨i, e, _⟩ := (mem_bitsZ h.s16).1 h1
      omega
  · intro h1
    exact .inl ⟨rfl, rfl, by rw [Int.toNat_natCast]; exact h1⟩
theorem goP_oneN {g : List (List Int)} {L : List Int} {v b : Int} (hb : b ≠ -1) : ¬ GoP g L v b 1 := by
  rintro (⟨_, h, _⟩ | ⟨_, _, h⟩)
  · exact hb h
  · have := condP_kind h; omega
theorem goP_outN {g : List (List Int)} {L : List Int} {v b k : Int} (hk : 2 ≤ k) (hb : ¬ (b ∈ L ∧ b ≠ v)) : ¬ GoP g L v b k := by
  rintro (⟨h, _⟩ | ⟨h1, h2, _⟩)
  · omega
  · exact hb ⟨h1, h2⟩
theorem goP_twoN {g : List (List Int)} {s : Nat} (h : LOk g s) {v b : Nat} (hv : v < g.length) (hb : s.testBit b = true) (hvb : b ≠ v) : GoP g (natInts (bitsOf s)) v b 2 ↔ mask (row g v) &&& s = 2 ^ b := by
  rw [pend_mask h hv hb]
  constructor
  · rintro (⟨h1, _⟩ | ⟨_, _, h1⟩)
    · omega
    · rcases h1 with ⟨_, h1⟩ | ⟨h1, _⟩ | ⟨h1, _⟩
      · simpa only [Int.toNat_natCast] using h1
      · omega
      · omega
  · intro h1
    exact .inr ⟨(mem_bitsI h.s16).2 hb, by omega, .inl ⟨rfl, by simpa only [Int.toNat_natCast] using h1⟩⟩
theorem goP_threeN {g : List (List Int)} {s : Nat} (h : LOk g s) {v b : Nat} (hv : s.testBit v = true) (hb : s.testBit b = true) (hvb : b ≠ v) : GoP g (natInts (bitsOf s)) v b 3 ↔ mask (row g v) &&& s = mask (row g b) &&& s := by
  rw [false_mask h hv hb (fun e => hvb e.symm)]
  constructor
  · rintro (⟨h1, _⟩ | ⟨_, _, h1⟩)
    · omega
    · rcases h1 with ⟨h1, _⟩ | ⟨_, h1⟩ | ⟨h1, _⟩
      · omega
      · simpa only [Int.toNat_natCast] using h1
      · omega
  · intro h1
    exact .inr ⟨(mem_bitsI h.s16).2 hb, by omega, .inr (.inl ⟨rfl, by simpa only [Int.toNat_natCast] using h1⟩)⟩
theorem goP_fourN {g : List (List Int)} {s : Nat} (h : LOk g s) {v b : Nat} (hv : s.testBit v = true) (hb : s.testBit b = true) (hvb : b ≠ v) :
    GoP g (natInts (bitsOf s)) v b 4 ↔ ((mask (row g v) &&& s).testBit b = true ∧ sub (mask (row g v) &&& s) (2 ^ b) = sub (mask (row g b) &&& s) (2 ^ v)) := by
  rw [true_mask h hv hb (fun e => hvb e.symm)]
  constructor
  · rintro (⟨h1, _⟩ | ⟨_, _, h1⟩)
    · omega
    · rcases h1 with ⟨h1, _⟩ | ⟨h1, _⟩ | ⟨_, h1⟩
      · omega
      · omega
      · simpa only [Int.toNat_natCast] using h1
  · intro h1
    exact .inr ⟨(mem_bitsI h.s16).2 hb, by omega, .inr (.inr ⟨rfl, by simpa only [Int.toNat_natCast] using h1⟩)⟩

set_option maxRecDepth 100000 in
set_option maxHeartbeats 2000000 in
theorem canPrune_one (p : Option Addr) (c : Nat) (y z b : Int) (g : List (List Int)) (s v : Nat) (hy : y = s) (hz : z = v) (hv : s.testBit v = true) (w : World) (hx : NetI w (.slice p g.length c) g s) :
    Calls Tryd.prog 71 #[.slice p g.length c, .int .u32 y, .int .i64 z, .int .i64 b, .int .i64 1] w fun e w' => e = .returned (.bool (dec (GoP g (natInts (bitsOf s)) v b 1))) ∧ Below w.heap.size w w' := by
  subst hy; subst hz
  have hvl := hx.ok.inn v hv
  obtain ⟨ab, ao, av, rfl, hc, hand⟩ := hx.get hvl
  have HO := Lib.hid hx.ok
  have e0 : (0 : Int) ≤ (v : Int) := by omega
  have e1 : (v : Int) < (g.length : Int) := by omega
  clear hx hv
  by_cases hb : b = -1
  · subst hb
    have HE := Lib.hid (dec_congr (goP_aloneN HO.out hvl))
    generalize mask (row g v) &&& s = M at hand HE
    by_cases h0 : M = 0
    · have h0' : ((M : Int) == 0) = true := by simp [h0]
      have H0 := Lib.hid h0
      clear h0
      go_enter Tryd.func71, Tryd.ntmps71
      go_wp2
      go_ret
      exact ⟨ret_bool (by rw [HE.out]; exact true_dec H0.out), Below.refl _ _⟩
    · have h0' : ((M : Int) == 0) = false := by simpa using h0
      have H0 := Lib.hid h0
      clear h0
      go_enter Tryd.func71, Tryd.ntmps71
      go_wp2
      go_ret
      exact ⟨ret_bool (by rw [HE.out]; exact false_dec H0.out), Below.refl _ _⟩
  · have hb' : (b == -1) = false := by simpa using hb
    have HB := Lib.hid hb
    clear hb
    go_enter Tryd.func71, Tryd.ntmps71
    go_wp2
    go_ret
    exact ⟨ret_bool (false_dec (goP_oneN HB.out)), Below.refl _ _⟩

set_option maxRecDepth 100000 in
set_option maxHeartbeats 2000000 in
theorem canPrune_out (p : Option Addr) (c : Nat) (y z b k : Int) (g : List (List Int)) (s v : Nat) (hy : y = s) (hz : z = v) (hv : s.testBit v = true) (h2 : 2 ≤ k) (h4 : k ≤ 4) (hbl : -1 ≤ b ∧ b < g.length) (hb : ¬ (b ∈ natInts (bitsOf s) ∧ b ≠ v)) (w : World) (hx : NetI w (.slice p g.length c) g s) :
    Calls Tryd.prog 71 #[.slice p g.length c, .int .u32 y, .int .i64 z, .int .i64 b, .int .i64 k] w fun e w' => e = .returned (.bool (dec (GoP g (natInts (bitsOf s)) v b k))) ∧ Below w.heap.size w w' := by
  subst hy; subst hz
  have hvl := hx.ok.inn v hv
  obtain ⟨ab, ao, av, rfl, hc, hand⟩ := hx.get hvl
  have HO := Lib.hid hx.ok
  have h16 := hx.ok.ok.le
  have hs16 := hx.ok.s16
  have HE := Lib.hid (dec_false (goP_outN (g := g) h2 hb))
  have e0 : (0 : Int) ≤ (v : Int) := by omega
  have e1 : (v : Int) < (g.length : Int) := by omega
  have hk1 : (k == 1) = false := by simp; omega
  have hwr : IntKind.i64.wrap ((g.length : Int) - 1) = (g.length : Int) - 1 := by rw [IntKind.wrap_i64]; omega
  have HB := Lib.hid hb
  clear hx hv hb
  generalize mask (row g v) &&& s = M at hand
  by_cases hr : 0 ≤ b ∧ b ≤ (g.length : Int) - 1
  case neg =>
    have hd := dec_false hr
    clear hr
    go_enter Tryd.func71, Tryd.ntmps71
    go_wp2_with (go_at_call 76; refine (inRange_any _ _ _ _).mono ?_; rintro e w2 ⟨he, rfl⟩; rw [hd] at he; subst he)
    go_ret
    exact ⟨ret_bool HE.out.symm, Below.refl _ _⟩
  have hd := dec_true hr
  obtain ⟨n, rfl⟩ : ∃ n : Nat, b = (n : Int) := ⟨b.toNat, (Int.toNat_of_nonneg hr.1).symm⟩
  have hn16 : n < 32 := by omega
  clear hr
  by_cases hbv : n = v
  · have hbv' : (((n : Nat) : Int) == ((v : Nat) : Int)) = true := by simp [hbv]
    clear hbv
    go_enter Tryd.func71, Tryd.ntmps71
    go_wp2_with (go_at_call 76; refine (inRange_any _ _ _ _).mono ?_; rintro e w2 ⟨he, rfl⟩; rw [hd] at he; subst he)
    go_ret
    exact ⟨ret_bool HE.out.symm, Below.refl _ _⟩
  · have hbv' : (((n : Nat) : Int) == ((v : Nat) : Int)) = false := by simpa using fun e => hbv (by omega)
    have hbit : s.testBit n = false := by
      rw [Bool.eq_false_iff]
      intro h
      exact HB.out ⟨(mem_bitsI hs16).2 h, by omega⟩
    clear hbv
    go_enter Tryd.func71, Tryd.ntmps71
    go_wp2_with (first
      | (go_at_call 76; refine (inRange_any _ _ _ _).mono ?_; rintro e w2 ⟨he, rfl⟩; rw [hd] at he; subst he)
      | (go_at_call 82; refine (has_any _ _ s n rfl rfl (by omega) hn16 _).mono ?_; rintro e w3 ⟨he, rfl⟩; rw [hbit] at he; subst he))
    go_ret
    exact ⟨ret_bool HE.out.symm, Below.refl _ _⟩

set_option maxRecDepth 100000 in
set_option maxHeartbeats 2000000 in
theorem canPrune_two (p : Option Addr) (c : Nat) (y z : Int) (g : List (List Int)) (s v b : Nat) (hy : y = s) (hz : z = v) (hv : s.testBit v = true) (hb : s.testBit b = true) (hbv : b ≠ v) (w : World) (hx : NetI w (.slice p g.length c) g s) :
    Calls Tryd.prog 71 #[.slice p g.length c, .int .u32 y, .int .i64 z, .int .i64 b, .int .i64 2] w fun e w' => e = .returned (.bool (dec (GoP g (natInts (bitsOf s)) v b 2))) ∧ Below w.heap.size w w' := by
  subst hy; subst hz
  have hvl := hx.ok.inn v hv
  have hbl := hx.ok.inn b hb
  obtain ⟨ab, ao, av, rfl, hc, hand⟩ := hx.get hvl
  obtain ⟨_, _, av2, e9, hc2, hand2⟩ := hx.get hbl
  cases e9
  have h16 := hx.ok.ok.le
  have hs16 := hx.ok.s16
  have HE := Lib.hid (dec_congr (goP_twoN hx.ok hvl hb hbv))
  have e0 : (0 : Int) ≤ (v : Int) := by omega
  have e1 : (v : Int) < (g.length : Int) := by omega
  have e2 : (0 : Int) ≤ (b : Int) := by omega
  have e3 : (b : Int) < (g.length : Int) := by omega
  have hwr : IntKind.i64.wrap ((g.length : Int) - 1) = (g.length : Int) - 1 := by rw [IntKind.wrap_i64]; omega
  have hd := dec_true (show 0 ≤ (b : Int) ∧ (b : Int) ≤ (g.length : Int) - 1 by omega)
  have hbv' : (((b : Nat) : Int) == ((v : Nat) : Int)) = false := by simpa using fun e => hbv (by omega)
  have hb32 : b < 32 := by omega
  have c1 := Lib.hid (fun w => one_any (b : Int) b rfl hb32 w)
  clear hx hv
  generalize mask (row g v) &&& s = M at hand HE
  generalize mask (row g b) &&& s = M2 at hand2
  generalize 2 ^ b = pb at *
  by_cases h0 : M = pb
  · have h0' : ((M : Int) == (pb : Int)) = true := by simp [h0]
    have H0 := Lib.hid h0
    clear h0
    go_enter Tryd.func71, Tryd.ntmps71
    go_wp2_with (first
      | (go_at_call 76; refine (inRange_any _ _ _ _).mono ?_; rintro e w2 ⟨he, rfl⟩; rw [hd] at he; subst he)
      | (go_at_call 56; refine (c1.out _).mono ?_; rintro e w4 ⟨rfl, rfl⟩)
      | (go_at_call 82; refine (has_any _ _ s b rfl rfl (by omega) hb32 _).mono ?_; rintro e w3 ⟨he, rfl⟩; rw [hb] at he; subst he))
    go_ret
    exact ⟨ret_bool (by rw [HE.out]; exact true_dec H0.out), Below.refl _ _⟩
  · have h0' : ((M : Int) == (pb : Int)) = false := by simpa using fun e => h0 (by omega)
    have H0 := Lib.hid h0
    clear h0
    go_enter Tryd.func71, Tryd.ntmps71
    go_wp2_with (first
      | (go_at_call 76; refine (inRange_any _ _ _ _).mono ?_; rintro e w2 ⟨he, rfl⟩; rw [hd] at he; subst he)
      | (go_at_call 56; refine (c1.out _).mono ?_; rintro e w4 ⟨rfl, rfl⟩)
      | (go_at_call 82; refine (has_any _ _ s b rfl rfl (by omega) hb32 _).mono ?_; rintro e w3 ⟨he, rfl⟩; rw [hb] at he; subst he))
    go_ret
    exact ⟨ret_bool (by rw [HE.out]; exact false_dec H0.out), Below.refl _ _⟩

end Go.Proofs.YtdkmnmnncccgaaaDoor
