/- Walks: size (math/bits.OnesCount32 at sets of eight), bySize. -/
import Derived.Test.YtdkmnmnncccgaaaDoorMdQ35
import Derived.Lib.Tables
import Derived.Lib.BitFns
import Derived.Shelf.SlSortCmp.Whole1
import Derived.Shelf.SlGeneric
import Derived.Test.YtdkmnmnncccgaaaDoorProg
namespace Go.Proofs.YtdkmnmnncccgaaaDoor
open Go.RowKit Go.Sort

theorem pop8_bits : ∀ n : Fin 256, Lib.pop8 (n.val : Int) = ((bitsOf n.val).length : Int) := by decide +kernel

set_option maxRecDepth 100000 in
set_option maxHeartbeats 1000000 in
theorem ones_any (s : Nat) (hs : s < 256) (w : World) :
    Calls Tryd.prog 93 #[.int .u32 s] w fun e w' => e = .returned (.int .i64 (bitsOf s).length) ∧ ∃ q, w' = w.drewN q := by
  have h24 : (s : Int) / 16777216 = 0 := by omega
  have h16 : (s : Int) / 65536 = 0 := by omega
  have h8 : (s : Int) / 256 = 0 := by omega
  have k24 : (s : Int) / 2 ^ 24 = 0 := by omega
  have k16 : (s : Int) / 2 ^ 16 = 0 := by omega
  have k8 : (s : Int) / 2 ^ 8 = 0 := by omega
  have a0 : bits BinOp.and IntKind.u32 0 255 = 0 := by decide
  have a255 : bits BinOp.and IntKind.u32 (s : Int) 255 = (s : Int) := by
    have e := u32_and_nat s 255 (by omega) (by decide)
    have e2 : s &&& 255 = s := by
      have := Nat.and_two_pow_sub_one_eq_mod s 8
      rw [show (2 ^ 8 - 1 : Nat) = 255 by decide] at this
      omega
    rw [e2] at e
    exact e
  have HH : Hid ((Lib.pop8 0 + Lib.pop8 0 + Lib.pop8 0 + Lib.pop8 (s : Int)) % 256 = ((bitsOf s).length : Int)) := Lib.hid (by
    have e0 : Lib.pop8 0 = 0 := by decide +kernel
    have e1 := pop8_bits ⟨s, hs⟩
    have e2 := bitsOf_length s
    simp only at e1
    rw [e0, e1]
    omega)
  have i0 : (0 : Int) ≤ (s : Int) := by omega
  have i1 : (s : Int) ≤ 255 := by omega
  go_enter Tryd.func93, Tryd.ntmps93
  go_wp2
  go_quiet (fail)
  go_wp2
  go_ret
  exact ⟨by rw [← HH.out]; rfl, _, rfl⟩

set_option maxHeartbeats 400000 in
theorem size_any (s : Nat) (hs : s < 256) (w : World) :
    Calls Tryd.prog 75 #[.int .u32 s] w fun e w' => e = .returned (.int .i64 (bitsOf s).length) ∧ ∃ q, w' = w.drewN q := by
  go_enter Tryd.func75, Tryd.ntmps75
  go_wp2_with (go_at_call 93; refine (ones_any s hs _).mono ?_; rintro e w2 ⟨rfl, q, rfl⟩)
  go_ret
  exact ⟨rfl, _, rfl⟩

/-- How two sets stand by size, then as lists. -/
noncomputable def cmpS (a b : List Nat) : Int := if a.length = b.length then cmpL a b else (a.length : Int) - b.length
theorem cmpS_lt {a b : List Nat} : cmpS a b < 0 ↔ lessP a b := by
  unfold cmpS lessP
  by_cases h : a.length = b.length
  · rw [if_pos h, cmpL_lt]
    exact ⟨fun k => .inr ⟨h, k⟩, fun k => k.elim (fun k => by omega) fun k => k.2⟩
  · rw [if_neg h]
    exact ⟨fun k => .inl (by omega), fun k => k.elim (fun k => by omega) fun k => absurd k.1 h⟩

set_option maxRecDepth 100000 in
set_option maxHeartbeats 1000000 in
theorem bySize_any (s t : Nat) (hs : s < 256) (ht : t < 256) (w : World) (hT : Tab w) :
    Calls Tryd.prog 62 #[.int .u32 s, .int .u32 t] w fun e w' => e = .returned (.int .i64 (cmpS (bitsOf s) (bitsOf t))) ∧ Below w.heap.size w w' ∧ w.drawn ≤ w'.drawn := by
  have HT := Lib.hid hT
  have h1 := bitsOf_length s
  have h2 := bitsOf_length t
  clear hT
  obtain ⟨a, ha⟩ : ∃ a, a = (bitsOf s).length := ⟨_, rfl⟩
  obtain ⟨b, hb⟩ : ∃ b, b = (bitsOf t).length := ⟨_, rfl⟩
  rw [← ha] at h1
  rw [← hb] at h2
  have HA := Lib.hid ha
  have HB := Lib.hid hb
  clear ha hb
  by_cases h : a = b
  · have hn : ((a : Int) != (b : Int)) = false := by simp [h]
    have HC : Hid (cmpS (bitsOf s) (bitsOf t) = cmpL (bitsOf s) (bitsOf t)) := Lib.hid (if_pos (by rw [← HA.out, ← HB.out]; exact h))
    clear h
    go_enter Tryd.func62, Tryd.ntmps62
    go_wp2_with (first
      | (go_at_call 68; refine (compareSets_any s t (by omega) (by omega) _ (HT.out.keep (below_dN (Below.refl _ _) _))).mono ?_; rintro e w4 ⟨rfl, hb4, hd4⟩)
      | (go_at_call 75; refine (size_any t ht _).mono ?_; rintro e w3 ⟨he3, q3, rfl⟩; rw [← HB.out] at he3; subst he3; have hq := q2)
      | (go_at_call 75; refine (size_any s hs _).mono ?_; rintro e w2 ⟨he2, q2, rfl⟩; rw [← HA.out] at he2; subst he2))
    go_ret
    exact ⟨by rw [HC.out]; rfl, (below_dN (Below.refl _ _) (q2 + q3)).trans hb4, by have hd : w.drawn + (q2 + q3) ≤ w4.drawn := hd4; omega⟩
  · have hn : ((a : Int) != (b : Int)) = true := by simp; omega
    have HC : Hid (cmpS (bitsOf s) (bitsOf t) = (a : Int) - (b : Int)) := Lib.hid (by rw [HA.out, HB.out]; exact if_neg (by rw [← HA.out, ← HB.out]; exact h))
    have i1 : (a : Int) ≤ 32 := by omega
    have i2 : (b : Int) ≤ 32 := by omega
    clear h
    go_enter Tryd.func62, Tryd.ntmps62
    go_wp2_with (first
      | (go_at_call 75; refine (size_any t ht _).mono ?_; rintro e w5 ⟨he5, q5, rfl⟩; rw [← HB.out] at he5; subst he5; have hq := q4)
      | (go_at_call 75; refine (size_any s hs _).mono ?_; rintro e w4 ⟨he4, q4, rfl⟩; rw [← HA.out] at he4; subst he4; have hq := q3)
      | (go_at_call 75; refine (size_any t ht _).mono ?_; rintro e w3 ⟨he3, q3, rfl⟩; rw [← HB.out] at he3; subst he3; have hq := q2)
      | (go_at_call 75; refine (size_any s hs _).mono ?_; rintro e w2 ⟨he2, q2, rfl⟩; rw [← HA.out] at he2; subst he2))
    go_ret
    refine ⟨by rw [HC.out]; rfl, below_dN (Below.refl _ _) _, ?_⟩
    show w.drawn ≤ w.drawn + _
    omega

end Go.Proofs.YtdkmnmnncccgaaaDoor

/- The library's SortFunc at sets: its functions' bodies as they lie in this program. -/
namespace Go.Proofs.YtdkmnmnncccgaaaDoor
open Go.Shelf

def sortF_ren : Go.Shelf.Ren := ⟨fun | 6 => 61 | 15 => 74 | 14 => 73 | 28 => 91 | 29 => 92 | 20 => 83 | 21 => 84 | 22 => 85 | 23 => 86 | 24 => 87 | 25 => 88 | 26 => 89 | 27 => 90 | 46 => 95 | 47 => 96 | 48 => 97 | 49 => 98 | 50 => 99 | 57 => 101 | n => n, fun | 22 => 46 | 24 => 50 | 25 => 83 | 3 => 3 | 39 => 65 | 0 => 0 | 53 => 49 | 55 => 106 | 4 => 4 | 46 => 99 | 45 => 98 | 50 => 103 | 5 => 5 | 9 => 9 | 66 => 109 | 70 => 113 | 76 => 115 | 77 => 116 | n => n, fun | n => n⟩
theorem sortF : Go.Proofs.SlLaysF.n6 Tryd.prog sortF_ren := {
  mixed := by kernel_rfl,
  f6 := ⟨Tryd.f61.name, by decide, Tryd.func61.trans (congrArg some (by kernel_rfl))⟩,
  f14 := ⟨Tryd.f73.name, by decide, Tryd.func73.trans (congrArg some (by kernel_rfl))⟩,
  f15 := Tryd.func74.trans (congrArg some (by kernel_rfl)),
  f20 := ⟨Tryd.f83.name, by decide, Tryd.func83.trans (congrArg some (by kernel_rfl))⟩,
  f21 := ⟨Tryd.f84.name, by decide, Tryd.func84.trans (congrArg some (by kernel_rfl))⟩,
  f22 := ⟨Tryd.f85.name, by decide, Tryd.func85.trans (congrArg some (by kernel_rfl))⟩,
  f23 := ⟨Tryd.f86.name, by decide, Tryd.func86.trans (congrArg some (by kernel_rfl))⟩,
  f24 := ⟨Tryd.f87.name, by decide, Tryd.func87.trans (congrArg some (by kernel_rfl))⟩,
  f25 := ⟨Tryd.f88.name, by decide, Tryd.func88.trans (congrArg some (by kernel_rfl))⟩,
  f26 := ⟨Tryd.f89.name, by decide, Tryd.func89.trans (congrArg some (by kernel_rfl))⟩,
  f27 := ⟨Tryd.f90.name, by decide, Tryd.func90.trans (congrArg some (by kernel_rfl))⟩,
  f28 := Tryd.func91.trans (congrArg some (by kernel_rfl)),
  f29 := Tryd.func92.trans (congrArg some (by kernel_rfl)),
  f46 := ⟨Tryd.f95.name, by decide, Tryd.func95.trans (congrArg some (by kernel_rfl))⟩,
  f47 := Tryd.func96.trans (congrArg some (by kernel_rfl)),
  f48 := Tryd.func97.trans (congrArg some (by kernel_rfl)),
  f49 := ⟨Tryd.f98.name, by decide, Tryd.func98.trans (congrArg some (by kernel_rfl))⟩,
  f50 := ⟨Tryd.f99.name, by decide, Tryd.func99.trans (congrArg some (by kernel_rfl))⟩,
  f57 := ⟨Tryd.f101.name, by decide, Tryd.func101.trans (congrArg some (by kernel_rfl))⟩,
  t0 := Tryd.underlying0,
  a0 := Tryd.isAgg0,
  z0 := Tryd.sizeOf0,
  v0 := Tryd.zeroValue0,
  t3 := Tryd.underlying3,
  a3 := Tryd.isAgg3,
  z3 := Tryd.sizeOf3,
  v3 := Tryd.zeroValue3,
  t4 := Tryd.underlying4,
  a4 := Tryd.isAgg4,
  z4 := Tryd.sizeOf4,
  v4 := Tryd.zeroValue4,
  t5 := Tryd.underlying5,
  a5 := Tryd.isAgg5,
  z5 := Tryd.sizeOf5,
  v5 := Tryd.zeroValue5,
  t9 := Tryd.underlying9,
  a9 := Tryd.isAgg9,
  z9 := Tryd.sizeOf9,
  v9 := Tryd.zeroValue9,
  t22 := Tryd.underlying46,
  a22 := Tryd.isAgg46,
  z22 := Tryd.sizeOf46,
  v22 := Tryd.zeroValue46,
  a24 := Tryd.isAgg50,
  z24 := Tryd.sizeOf50,
  t25 := Tryd.underlying83,
  a25 := Tryd.isAgg83,
  z25 := Tryd.sizeOf83,
  v25 := Tryd.zeroValue83,
  t39 := Tryd.underlying65,
  a39 := Tryd.isAgg65,
  z39 := Tryd.sizeOf65,
  v39 := Tryd.zeroValue65,
  t45 := Tryd.underlying98,
  a45 := Tryd.isAgg98,
  z45 := Tryd.sizeOf98,
  v45 := Tryd.zeroValue98,
  t46 := Tryd.underlying99,
  a46 := Tryd.isAgg99,
  z46 := Tryd.sizeOf99,
  v46 := Tryd.zeroValue99,
  t50 := Tryd.underlying103,
  a50 := Tryd.isAgg103,
  z50 := Tryd.sizeOf103,
  v50 := Tryd.zeroValue103,
  t53 := Tryd.underlying49,
  a53 := Tryd.isAgg49,
  z53 := Tryd.sizeOf49,
  v53 := Tryd.zeroValue49,
  t55 := Tryd.underlying106,
  a55 := Tryd.isAgg106,
  z55 := Tryd.sizeOf106,
  v55 := Tryd.zeroValue106,
  t66 := Tryd.underlying109,
  a66 := Tryd.isAgg109,
  z66 := Tryd.sizeOf109,
  v66 := Tryd.zeroValue109,
  t70 := Tryd.underlying113,
  a70 := Tryd.isAgg113,
  z70 := Tryd.sizeOf113,
  v70 := Tryd.zeroValue113,
  t76 := Tryd.underlying115,
  a76 := Tryd.isAgg115,
  z76 := Tryd.sizeOf115,
  v76 := Tryd.zeroValue115,
  t77 := Tryd.underlying116,
  a77 := Tryd.isAgg116,
  z77 := Tryd.sizeOf116,
  v77 := Tryd.zeroValue116 }

end Go.Proofs.YtdkmnmnncccgaaaDoor
