/- Walks: the program's edges, how many, an edge; the reference's edges, in whatever graph. -/
import Derived.Test.YtjdlmjmhlbpooaaDoorEgQ40
import Derived.Shelf.SortM.Plain
import Derived.Shelf.SortM.SortNone
import Derived.Test.YtjdlmjmhlbpooaaDoorProg
import Derived.RangeFuncNested
import Derived.RangeFuncBound
import Derived.RangeFuncCalls
import Derived.RangeFuncLeaves
import Derived.RangeFuncWrites
import Derived.RangeFuncBox
import Derived.Shelf.Abstract
import Derived.Shelf.RegionOpen
import Derived.WalkKit
import Derived.OwnWalkIn
import Derived.TacticsInMore
import Derived.LoopNIn
import Derived.LoopIn
import Derived.Maps.AppendAt
import Derived.Sort.OwnSorted
import Derived.Test.YtjdlmjmhlbpooaaDoorEgQ1
import Derived.Lib.SlKeysI
import Derived.Test.YtjdlmjmhlbpooaaDoorEgQ9
import Derived.Test.YtjdlmjmhlbpooaaDoorEgQ15
namespace Go.Proofs.YtjdlmjmhlbpooaaDoor
open Go.RowKit

theorem PrsO.rwsE {w : World} {base : Nat} {ov : Value} {l : List (Nat × Nat)} (h : PrsO w base ov l) (hl : l.length ≤ 1000000) : Rws w 26 2 ov (prsL l) := by
  obtain ⟨vals, h1, h2, h3⟩ := h
  have e : (prsL l).length = l.length := by simp [prsL]
  exact ⟨vals, by rw [e]; exact h1, by rw [e]; exact Sl.of_owns h2 (by omega), fun j hj => h3 j (by rw [← e]; exact hj)⟩

set_option maxRecDepth 100000 in
set_option maxHeartbeats 1000000 in
theorem implEdgesOf_any (v : Value) (g : List (List Int)) (w : World) (hg : Gr w v g) :
    Calls Tryd.prog 31 #[v] w fun e w' => ∃ u : Value, e = .returned u ∧ ((GOk g ∧ PrsO w' w.heap.size u (edN g.length (ofG g) g.length)) ∨ (¬ GOk g ∧ u = .slice none 0 0)) ∧ Below w.heap.size w w' := by
  have hg0 := hg
  obtain ⟨u, rfl, hr⟩ := hg
  obtain ⟨p, c, rfl, _⟩ := hr.shape
  have hbA := Lib.hid (below_alloc w (.cells #[.slice p g.length c] 29))
  have HG := Lib.hid (hg0.below hbA.out)
  have BX := Lib.hid (Box.new w (.slice p g.length c) 29)
  clear hr hg0
  by_cases hok : GOk g
  · have HD := Lib.hid (dec_true hok)
    have HOK := Lib.hid hok
    clear hok
    go_enter Tryd.func31, Tryd.ntmps31
    go_wp2_with (first
      | (go_at_call 32; refine (implGraphOk_any _ g _ HG.out).mono ?_; rintro e w2 ⟨he, hb2⟩; rw [HD.out] at he; subst he; have hbx := (BX.out.keep hb2).cell)
      | (go_at_call 90; refine (edgesC_any _ g HOK.out _ (HG.out.below hb2)).mono ?_; rintro e w3 ⟨u3, rfl, hp3, hb3⟩; obtain ⟨p3, c3, rfl⟩ := hp3.shape; have HP3 := Lib.hid hp3; clear hp3))
    go_ret
    exact ⟨_, rfl, .inl ⟨HOK.out, HP3.out.base (Nat.le_trans hbA.out.size hb2.size)⟩, (hbA.out.trans (hb2.mono hbA.out.size)).trans (hb3.mono (Nat.le_trans hbA.out.size hb2.size))⟩
  · have HD := Lib.hid (dec_false hok)
    have HOK := Lib.hid hok
    clear hok
    go_enter Tryd.func31, Tryd.ntmps31
    go_wp2_with (go_at_call 32; refine (implGraphOk_any _ g _ HG.out).mono ?_; rintro e w2 ⟨he, hb2⟩; rw [HD.out] at he; subst he)
    go_ret
    exact ⟨_, rfl, .inr ⟨HOK.out, rfl⟩, hbA.out.trans (hb2.mono hbA.out.size)⟩

/-- How many edges a graph has; none where it is not right. -/
noncomputable def manE (g : List (List Int)) : Nat := if dec (GOk g) = true then (edN g.length (ofG g) g.length).length else 0
theorem manE_yes {g : List (List Int)} (h : GOk g) : manE g = (edN g.length (ofG g) g.length).length := by unfold manE; rw [if_pos (dec_true h)]
theorem manE_no {g : List (List Int)} (h : ¬ GOk g) : manE g = 0 := by unfold manE; rw [if_neg (by rw [dec_false h]; decide)]
set_option maxRecDepth 100000 in
set_option maxHeartbeats 1000000 in
theorem implManyE_any (v : Value) (g : List (List Int)) (w : World) (hg : Gr w v g) :
    Calls Tryd.prog 33 #[v] w fun e w' => e = .returned (.int .i64 (manE g : Int)) ∧ Below w.heap.size w w' := by
  have hg0 := hg
  obtain ⟨u, rfl, hr⟩ := hg
  obtain ⟨p, c, rfl, _⟩ := hr.shape
  have hbA := Lib.hid (below_alloc w (.cells #[.slice p g.length c] 29))
  have HG := Lib.hid (hg0.below hbA.out)
  have BX := Lib.hid (Box.new w (.slice p g.length c) 29)
  have E : Hid (∀ (w : World), Gr w (.agg #[.slice p g.length c]) g → Calls Tryd.prog 31 #[.agg #[.slice p g.length c]] w fun e w' => ∃ p c, e = .returned (.slice p (manE g) c) ∧ Below w.heap.size w w') := Lib.hid (fun w hg => by
    refine (implEdgesOf_any _ g w hg).mono ?_
    rintro e w2 ⟨u, rfl, h | ⟨h, rfl⟩, hb⟩
    · obtain ⟨q, d, rfl⟩ := h.2.shape
      exact ⟨q, d, by rw [manE_yes h.1], hb⟩
    · exact ⟨none, 0, by rw [manE_no h], hb⟩)
  clear hr hg0
  go_enter Tryd.func33, Tryd.ntmps33
  go_wp2_with (go_at_call 31; refine (E.out _ HG.out).mono ?_; rintro e w2 ⟨p2, c2, rfl, hb2⟩)
  go_ret
  exact ⟨rfl, hbA.out.trans (hb2.mono hbA.out.size)⟩

set_option maxRecDepth 100000 in
set_option maxHeartbeats 1000000 in
theorem specEdgesE_any (v : Value) (g : List (List Int)) (w : World) (hg : Gr w v g) :
    Calls Tryd.prog 34 #[v] w fun e w' => ∃ (u : Value) (b : Nat), e = .returned u ∧ ((GOk g ∧ PrsO w' b u (edN g.length (ofG g) g.length)) ∨ (¬ GOk g ∧ PrsO w' b u [])) ∧ Below w.heap.size w w' := by
  by_cases hok : GOk g
  · refine (specEdgesOf_any v g hok w hg).mono ?_
    rintro e w2 ⟨u, rfl, hp, hb⟩
    exact ⟨u, _, rfl, .inl ⟨hok, hp⟩, hb⟩
  · have hg0 := hg
    obtain ⟨u, rfl, hr⟩ := hg
    obtain ⟨p, c, rfl, _⟩ := hr.shape
    have hbA := Lib.hid (below_alloc w (.cells #[.slice p g.length c] 29))
    have HG := Lib.hid (hg0.below hbA.out)
    have HD := Lib.hid (dec_false hok)
    have HOK := Lib.hid hok
    clear hr hg0 hok
    go_enter Tryd.func34, Tryd.ntmps34
    go_wp2_with (go_at_call 29; refine (specGraphOk_any _ g _ HG.out).mono ?_; rintro e w2 ⟨he, hb2⟩; rw [HD.out] at he; subst he)
    go_ret
    exact ⟨_, w2.heap.size, rfl, .inr ⟨HOK.out, PrsO.nil w2 _ (Nat.le_refl _)⟩, (hbA.out.trans (hb2.mono hbA.out.size)).alloc (Nat.le_trans hbA.out.size hb2.size) _⟩

set_option maxRecDepth 100000 in
set_option maxHeartbeats 1000000 in
theorem isVertexE_any (v : Value) (g : List (List Int)) (x : Int) (hok : GOk g) (w : World) (hg : Gr w v g) :
    Calls Tryd.prog 78 #[v, .int .i64 x] w fun e w' => e = .returned (.bool (dec (0 ≤ x ∧ x < g.length))) ∧ Below w.heap.size w w' := by
  have hg0 := hg
  obtain ⟨u, rfl, hr⟩ := hg
  obtain ⟨p, c, rfl, _⟩ := hr.shape
  have hbA := Lib.hid (below_alloc w (.cells #[.slice p g.length c] 29))
  have HG := Lib.hid (hg0.below hbA.out)
  have BX := Lib.hid (Box.new w (.slice p g.length c) 29)
  have HD := Lib.hid (dec_true hok)
  have h16 := hok.le
  have hwr : IntKind.i64.wrap ((g.length : Int) - 1) = (g.length : Int) - 1 := by rw [IntKind.wrap_i64]; omega
  have HC : Hid (dec (0 ≤ x ∧ x ≤ (g.length : Int) - 1) = dec (0 ≤ x ∧ x < g.length)) := Lib.hid (dec_congr (by omega))
  clear hr hg0 hok
  go_enter Tryd.func78, Tryd.ntmps78
  go_wp2_with (first
    | (go_at_call 32; refine (implGraphOk_any _ g _ HG.out).mono ?_; rintro e w2 ⟨he, hb2⟩; rw [HD.out] at he; subst he; have hbx := (BX.out.keep hb2).cell)
    | (go_at_call 94; refine (inRange_any _ _ _ _).mono ?_; rintro e w3 ⟨he, hw⟩; rw [HC.out] at he; subst he; subst hw))
  go_ret
  exact ⟨rfl, hbA.out.trans (hb2.mono hbA.out.size)⟩

set_option maxRecDepth 100000 in
set_option maxHeartbeats 1000000 in
theorem implEdgeIn_yes (v : Value) (g : List (List Int)) (y z : Int) (a b : Nat) (hy : y = a) (hz : z = b) (hok : GOk g) (ha : a < g.length) (hE : ofG g a b = true) (w : World) (hg : Gr w v g) :
    Calls Tryd.prog 37 #[v, .int .i64 y, .int .i64 z] w fun e w' => e = .returned (.bool true) ∧ Below w.heap.size w w' := by
  subst hy; subst hz
  have hg0 := hg
  obtain ⟨u, rfl, hr⟩ := hg
  obtain ⟨p, c, rfl, _⟩ := hr.shape
  have hbA := Lib.hid (below_alloc w (.cells #[.slice p g.length c] 29))
  have HG := Lib.hid (hg0.below hbA.out)
  have HR := Lib.hid (hr.below hbA.out)
  have BX := Lib.hid (Box.new w (.slice p g.length c) 29)
  have HDA := Lib.hid (dec_true (show (0 : Int) ≤ (a : Int) ∧ (a : Int) < g.length from ⟨by omega, by omega⟩))
  have HDE := Lib.hid (dec_true (show (b : Int) ∈ row g a by simpa [ofG] using hE))
  have HOK := Lib.hid hok
  obtain ⟨rb, ro, rp, rc, rfl, _, _⟩ := HR.out.get ha
  have HRow : Hid (∀ wz, Below w.heap.size w wz → ∃ rp rc, wz.cell? ⟨rb, ro + a, none⟩ = some (.slice rp (row g a).length rc) ∧ Nums wz 2 .i64 (.slice rp (row g a).length rc) (row g a)) := Lib.hid fun wz hbz => by
    obtain ⟨b', o', rp', rc', e1, h1, h2⟩ := (hr.below hbz).get ha
    cases e1
    exact ⟨rp', rc', h1, h2⟩
  clear hr hg0 hok hE
  go_enter Tryd.func37, Tryd.ntmps37
  go_wp2_with (first
    | (go_at_call 92; refine (contains_any _ (row g a) (b : Int) _ (hrn.below (below_dN (Below.refl _ _) 1))).mono ?_; rintro e w3 ⟨he, hw⟩; rw [HDE.out] at he; subst he; subst hw)
    | (go_at_call 92; refine (contains_any _ (row g a) (b : Int) _ hrn).mono ?_; rintro e w3 ⟨he, hw⟩; rw [HDE.out] at he; subst he; subst hw)
    | (go_at_call 78; refine (isVertexE_any _ g (a : Int) HOK.out _ HG.out).mono ?_; rintro e w2 ⟨he, hb2⟩; rw [HDA.out] at he; subst he; have hbx := (BX.out.keep hb2).cell; have hbw := hbA.out.trans (hb2.mono hbA.out.size); obtain ⟨rp2, rc2, hrc, hrn⟩ := HRow.out _ hbw))
  go_ret
  exact ⟨rfl, hbw⟩

end Go.Proofs.YtjdlmjmhlbpooaaDoor

/- The library's sort at rows of int64: its functions' bodies as they lie in this program. -/
namespace Go.Proofs.YtjdlmjmhlbpooaaDoor
open Go.Shelf

def sortA_ren : Go.Shelf.Ren := ⟨fun | 5 => 96 | 8 => 129 | 7 => 128 | 19 => 150 | 20 => 151 | 10 => 141 | 11 => 142 | 12 => 143 | 13 => 144 | 14 => 145 | 15 => 146 | 16 => 147 | 17 => 148 | 18 => 149 | 30 => 155 | 31 => 156 | 32 => 157 | 33 => 158 | 34 => 159 | 35 => 160 | 40 => 161 | n => n, fun | 23 => 26 | 25 => 2 | 3 => 3 | 32 => 60 | 22 => 26 | 0 => 0 | 44 => 68 | 46 => 40 | 4 => 4 | 36 => 129 | 35 => 128 | 41 => 134 | 5 => 5 | 9 => 9 | 53 => 139 | 57 => 143 | 63 => 145 | 64 => 146 | n => n, fun | n => n⟩
theorem sortA : Go.Proofs.SlLaysM.n5 Tryd.prog sortA_ren := {
  mixed := by kernel_rfl,
  f5 := ⟨Tryd.f96.name, by decide, Tryd.func96.trans (congrArg some (by kernel_rfl))⟩,
  f7 := ⟨Tryd.f128.name, by decide, Tryd.func128.trans (congrArg some (by kernel_rfl))⟩,
  f8 := Tryd.func129.trans (congrArg some (by kernel_rfl)),
  f10 := ⟨Tryd.f141.name, by decide, Tryd.func141.trans (congrArg some (by kernel_rfl))⟩,
  f11 := ⟨Tryd.f142.name, by decide, Tryd.func142.trans (congrArg some (by kernel_rfl))⟩,
  f12 := ⟨Tryd.f143.name, by decide, Tryd.func143.trans (congrArg some (by kernel_rfl))⟩,
  f13 := ⟨Tryd.f144.name, by decide, Tryd.func144.trans (congrArg some (by kernel_rfl))⟩,
  f14 := ⟨Tryd.f145.name, by decide, Tryd.func145.trans (congrArg some (by kernel_rfl))⟩,
  f15 := ⟨Tryd.f146.name, by decide, Tryd.func146.trans (congrArg some (by kernel_rfl))⟩,
  f16 := ⟨Tryd.f147.name, by decide, Tryd.func147.trans (congrArg some (by kernel_rfl))⟩,
  f17 := ⟨Tryd.f148.name, by decide, Tryd.func148.trans (congrArg some (by kernel_rfl))⟩,
  f18 := ⟨Tryd.f149.name, by decide, Tryd.func149.trans (congrArg some (by kernel_rfl))⟩,
  f19 := Tryd.func150.trans (congrArg some (by kernel_rfl)),
  f20 := Tryd.func151.trans (congrArg some (by kernel_rfl)),
  f30 := ⟨Tryd.f155.name, by decide, Tryd.func155.trans (congrArg some (by kernel_rfl))⟩,
  f31 := Tryd.func156.trans (congrArg some (by kernel_rfl)),
  f32 := Tryd.func157.trans (congrArg some (by kernel_rfl)),
  f33 := ⟨Tryd.f158.name, by decide, Tryd.func158.trans (congrArg some (by kernel_rfl))⟩,
  f34 := ⟨Tryd.f159.name, by decide, Tryd.func159.trans (congrArg some (by kernel_rfl))⟩,
  f35 := ⟨Tryd.f160.name, by decide, Tryd.func160.trans (congrArg some (by kernel_rfl))⟩,
  f40 := ⟨Tryd.f161.name, by decide, Tryd.func161.trans (congrArg some (by kernel_rfl))⟩,
  t0 := Tryd.underlying0,
  a0 := Tryd.isAgg0,
  z0 := Tryd.sizeOf0,
  v0 := Tryd.zeroValue0,
  t3 := Tryd.underlying3,
  a3 := Tryd.isAgg3,
  z3 := Tryd.sizeOf3,
  v3 := Tryd.zeroValue3,
  t4 := Tryd.underlying4,
  a4 := Tryd.isAgg4,
  z4 := Tryd.sizeOf4,
  v4 := Tryd.zeroValue4,
  t5 := Tryd.underlying5,
  a5 := Tryd.isAgg5,
  z5 := Tryd.sizeOf5,
  v5 := Tryd.zeroValue5,
  t9 := Tryd.underlying9,
  a9 := Tryd.isAgg9,
  z9 := Tryd.sizeOf9,
  v9 := Tryd.zeroValue9,
  t22 := Tryd.underlying26,
  a22 := Tryd.isAgg26,
  z22 := Tryd.sizeOf26,
  v22 := Tryd.zeroValue26,
  t23 := Tryd.underlying26,
  a23 := Tryd.isAgg26,
  z23 := Tryd.sizeOf26,
  v23 := Tryd.zeroValue26,
  t25 := Tryd.underlying2,
  a25 := Tryd.isAgg2,
  z25 := Tryd.sizeOf2,
  v25 := Tryd.zeroValue2,
  t32 := Tryd.underlying60,
  a32 := Tryd.isAgg60,
  z32 := Tryd.sizeOf60,
  v32 := Tryd.zeroValue60,
  t35 := Tryd.underlying128,
  a35 := Tryd.isAgg128,
  z35 := Tryd.sizeOf128,
  v35 := Tryd.zeroValue128,
  t36 := Tryd.underlying129,
  a36 := Tryd.isAgg129,
  z36 := Tryd.sizeOf129,
  v36 := Tryd.zeroValue129,
  t41 := Tryd.underlying134,
  a41 := Tryd.isAgg134,
  z41 := Tryd.sizeOf134,
  v41 := Tryd.zeroValue134,
  t44 := Tryd.underlying68,
  a44 := Tryd.isAgg68,
  z44 := Tryd.sizeOf68,
  v44 := Tryd.zeroValue68,
  t46 := Tryd.underlying40,
  a46 := Tryd.isAgg40,
  z46 := Tryd.sizeOf40,
  v46 := Tryd.zeroValue40,
  t53 := Tryd.underlying139,
  a53 := Tryd.isAgg139,
  z53 := Tryd.sizeOf139,
  v53 := Tryd.zeroValue139,
  t57 := Tryd.underlying143,
  a57 := Tryd.isAgg143,
  z57 := Tryd.sizeOf143,
  v57 := Tryd.zeroValue143,
  t63 := Tryd.underlying145,
  a63 := Tryd.isAgg145,
  z63 := Tryd.sizeOf145,
  v63 := Tryd.zeroValue145,
  t64 := Tryd.underlying146,
  a64 := Tryd.isAgg146,
  z64 := Tryd.sizeOf146,
  v64 := Tryd.zeroValue146 }

end Go.Proofs.YtjdlmjmhlbpooaaDoor

/- Walks: slices.Sorted(slices.Values(s)) at rows of int64. -/
namespace Go.Proofs.YtjdlmjmhlbpooaaDoor
open Go.RowKit Go.Shelf Go.Sort

/-- The value holds the numbers, in a block below n₀. -/
def Held (n₀ : Nat) (W : World) (sv : Value) (zs : List Int) : Prop :=
  (zs = [] ∧ ∃ p cap, sv = .slice p 0 cap) ∨ ∃ b off cap, sv = .slice (some ⟨b, off, none⟩) zs.length cap ∧ b < n₀ ∧ ∀ j (h : j < zs.length), W.cell? ⟨b, off + j, none⟩ = some (.int .i64 zs[j])
theorem Held.below {n₀ : Nat} {X Y : World} (h : Below n₀ X Y) {sv : Value} {zs : List Int} : Held n₀ X sv zs → Held n₀ Y sv zs
  | .inl e => .inl e
  | .inr ⟨b, off, cap, e, hb, hc⟩ => .inr ⟨b, off, cap, e, hb, fun j hj => (h.cell (p := ⟨b, off + j, none⟩) hb).trans (hc j hj)⟩

theorem info64 : (Tryd.prog.info? 2).map (fun i => (i.zero, i.size, i.bytes)) = some (some (.int .i64 0), 1, 8) := by kernel_rfl

end Go.Proofs.YtjdlmjmhlbpooaaDoor

/- Walks: slices.Sorted(slices.Values(s)), whole; the program's OrderOk. -/
namespace Go.Proofs.YtjdlmjmhlbpooaaDoor
open Go.RowKit Go.Sort Go.Shelf

theorem Held.of_nums {w : World} {v : Value} {xs : List Int} (h : Nums w 2 .i64 v xs) : Held w.heap.size w v xs := by
  obtain ⟨p, c, rfl, _, _, _, hat⟩ := id h.shape
  by_cases h0 : 0 < xs.length
  · obtain ⟨b, o, rfl, hc⟩ := hat.num h0
    refine .inr ⟨b, o, c, rfl, World.block_lt_of_cell? w _ hc, fun j hj => ?_⟩
    obtain ⟨_, _, e, hc'⟩ := hat.num hj
    cases e
    exact hc'
  · obtain rfl : xs = [] := List.eq_nil_of_length_eq_zero (by omega)
    exact .inl ⟨rfl, p, c, rfl⟩

theorem sort_any (blk off cap : Nat) (zs : List Int) (w : World) (hH : Holds (Value.int .i64) w blk off zs.toArray) (hblk : blk < w.heap.size) (hsz : zs.length < 4611686018427387904) :
    Calls Tryd.prog 96 #[.slice (some ⟨blk, off, none⟩) zs.length cap] w fun e w' =>
      e = .returned (.tuple #[]) ∧ ∃ n os, w' = grow (putRow (Value.int .i64) (Sort.ahead w n) blk off (zs.mergeSort fun x y => decide (x ≤ y)).toArray) os :=
  AnyM.slices_Sort_int sortA blk off cap zs w hH hblk hsz
theorem sort_none (p : Option Addr) (cap : Nat) (w : World) :
    Calls Tryd.prog 96 #[.slice p 0 cap] w fun e w' => e = .returned (.tuple #[]) ∧ w' = w :=
  AnyM.slices_Sort_int_none sortA p cap w

end Go.Proofs.YtjdlmjmhlbpooaaDoor
