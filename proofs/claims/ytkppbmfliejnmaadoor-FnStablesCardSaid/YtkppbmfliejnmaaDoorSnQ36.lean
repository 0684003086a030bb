/- The library's sort at rows of int64: its functions' bodies as they lie in this program. -/
import Derived.Shelf.SortM.Plain
import Derived.Shelf.SortM.SortNone
import Derived.Test.YtkppbmfliejnmaaDoorProg
import Derived.RangeFuncNested
import Derived.RangeFuncBound
import Derived.RangeFuncCalls
import Derived.RangeFuncLeaves
import Derived.RangeFuncWrites
import Derived.RangeFuncBox
import Derived.Shelf.Abstract
import Derived.Shelf.RegionOpen
import Derived.WalkKit
import Derived.OwnWalkIn
import Derived.TacticsInMore
import Derived.LoopNIn
import Derived.LoopIn
import Derived.Maps.AppendAt
import Derived.Sort.OwnSorted
import Derived.Test.YtkppbmfliejnmaaDoorSnQ2
import Derived.Lib.SlKeysI
import Derived.Test.YtkppbmfliejnmaaDoorSnQ4
import Derived.Test.YtkppbmfliejnmaaDoorSnQ6
namespace Go.Proofs.YtkppbmfliejnmaaDoor
open Go.Shelf

def sortA_ren : Go.Shelf.Ren := ⟨fun | 5 => 159 | 8 => 190 | 7 => 211 | 19 => 231 | 20 => 232 | 10 => 238 | 11 => 239 | 12 => 240 | 13 => 241 | 14 => 242 | 15 => 243 | 16 => 244 | 17 => 245 | 18 => 246 | 30 => 257 | 31 => 249 | 32 => 250 | 33 => 258 | 34 => 259 | 35 => 256 | 40 => 262 | n => n, fun | 23 => 33 | 25 => 2 | 3 => 3 | 32 => 83 | 22 => 33 | 0 => 0 | 44 => 69 | 46 => 26 | 4 => 4 | 36 => 172 | 35 => 171 | 41 => 176 | 5 => 5 | 9 => 9 | 53 => 189 | 57 => 193 | 63 => 198 | 64 => 199 | n => n, fun | n => n⟩
theorem sortA : Go.Proofs.SlLaysM.n5 Tryd.prog sortA_ren := {
  mixed := by kernel_rfl,
  f5 := ⟨Tryd.f159.name, by decide, Tryd.func159.trans (congrArg some (by kernel_rfl))⟩,
  f7 := ⟨Tryd.f211.name, by decide, Tryd.func211.trans (congrArg some (by kernel_rfl))⟩,
  f8 := Tryd.func190.trans (congrArg some (by kernel_rfl)),
  f10 := ⟨Tryd.f238.name, by decide, Tryd.func238.trans (congrArg some (by kernel_rfl))⟩,
  f11 := ⟨Tryd.f239.name, by decide, Tryd.func239.trans (congrArg some (by kernel_rfl))⟩,
  f12 := ⟨Tryd.f240.name, by decide, Tryd.func240.trans (congrArg some (by kernel_rfl))⟩,
  f13 := ⟨Tryd.f241.name, by decide, Tryd.func241.trans (congrArg some (by kernel_rfl))⟩,
  f14 := ⟨Tryd.f242.name, by decide, Tryd.func242.trans (congrArg some (by kernel_rfl))⟩,
  f15 := ⟨Tryd.f243.name, by decide, Tryd.func243.trans (congrArg some (by kernel_rfl))⟩,
  f16 := ⟨Tryd.f244.name, by decide, Tryd.func244.trans (congrArg some (by kernel_rfl))⟩,
  f17 := ⟨Tryd.f245.name, by decide, Tryd.func245.trans (congrArg some (by kernel_rfl))⟩,
  f18 := ⟨Tryd.f246.name, by decide, Tryd.func246.trans (congrArg some (by kernel_rfl))⟩,
  f19 := Tryd.func231.trans (congrArg some (by kernel_rfl)),
  f20 := Tryd.func232.trans (congrArg some (by kernel_rfl)),
  f30 := ⟨Tryd.f257.name, by decide, Tryd.func257.trans (congrArg some (by kernel_rfl))⟩,
  f31 := Tryd.func249.trans (congrArg some (by kernel_rfl)),
  f32 := Tryd.func250.trans (congrArg some (by kernel_rfl)),
  f33 := ⟨Tryd.f258.name, by decide, Tryd.func258.trans (congrArg some (by kernel_rfl))⟩,
  f34 := ⟨Tryd.f259.name, by decide, Tryd.func259.trans (congrArg some (by kernel_rfl))⟩,
  f35 := ⟨Tryd.f256.name, by decide, Tryd.func256.trans (congrArg some (by kernel_rfl))⟩,
  f40 := ⟨Tryd.f262.name, by decide, Tryd.func262.trans (congrArg some (by kernel_rfl))⟩,
  t0 := Tryd.underlying0,
  a0 := Tryd.isAgg0,
  z0 := Tryd.sizeOf0,
  v0 := Tryd.zeroValue0,
  t3 := Tryd.underlying3,
  a3 := Tryd.isAgg3,
  z3 := Tryd.sizeOf3,
  v3 := Tryd.zeroValue3,
  t4 := Tryd.underlying4,
  a4 := Tryd.isAgg4,
  z4 := Tryd.sizeOf4,
  v4 := Tryd.zeroValue4,
  t5 := Tryd.underlying5,
  a5 := Tryd.isAgg5,
  z5 := Tryd.sizeOf5,
  v5 := Tryd.zeroValue5,
  t9 := Tryd.underlying9,
  a9 := Tryd.isAgg9,
  z9 := Tryd.sizeOf9,
  v9 := Tryd.zeroValue9,
  t22 := Tryd.underlying33,
  a22 := Tryd.isAgg33,
  z22 := Tryd.sizeOf33,
  v22 := Tryd.zeroValue33,
  t23 := Tryd.underlying33,
  a23 := Tryd.isAgg33,
  z23 := Tryd.sizeOf33,
  v23 := Tryd.zeroValue33,
  t25 := Tryd.underlying2,
  a25 := Tryd.isAgg2,
  z25 := Tryd.sizeOf2,
  v25 := Tryd.zeroValue2,
  t32 := Tryd.underlying83,
  a32 := Tryd.isAgg83,
  z32 := Tryd.sizeOf83,
  v32 := Tryd.zeroValue83,
  t35 := Tryd.underlying171,
  a35 := Tryd.isAgg171,
  z35 := Tryd.sizeOf171,
  v35 := Tryd.zeroValue171,
  t36 := Tryd.underlying172,
  a36 := Tryd.isAgg172,
  z36 := Tryd.sizeOf172,
  v36 := Tryd.zeroValue172,
  t41 := Tryd.underlying176,
  a41 := Tryd.isAgg176,
  z41 := Tryd.sizeOf176,
  v41 := Tryd.zeroValue176,
  t44 := Tryd.underlying69,
  a44 := Tryd.isAgg69,
  z44 := Tryd.sizeOf69,
  v44 := Tryd.zeroValue69,
  t46 := Tryd.underlying26,
  a46 := Tryd.isAgg26,
  z46 := Tryd.sizeOf26,
  v46 := Tryd.zeroValue26,
  t53 := Tryd.underlying189,
  a53 := Tryd.isAgg189,
  z53 := Tryd.sizeOf189,
  v53 := Tryd.zeroValue189,
  t57 := Tryd.underlying193,
  a57 := Tryd.isAgg193,
  z57 := Tryd.sizeOf193,
  v57 := Tryd.zeroValue193,
  t63 := Tryd.underlying198,
  a63 := Tryd.isAgg198,
  z63 := Tryd.sizeOf198,
  v63 := Tryd.zeroValue198,
  t64 := Tryd.underlying199,
  a64 := Tryd.isAgg199,
  z64 := Tryd.sizeOf199,
  v64 := Tryd.zeroValue199 }

end Go.Proofs.YtkppbmfliejnmaaDoor

/- Walks: slices.Sorted(slices.Values(s)) at rows of int64. -/
namespace Go.Proofs.YtkppbmfliejnmaaDoor
open Go.RowKit Go.Shelf Go.Sort

set_option maxRecDepth 100000 in
set_option maxHeartbeats 2000000 in
theorem values1_in (n : Nat) (hn : 1 ≤ n) (l Bs n₀ b off cap : Nat) (zs : List Int) (hz : zs.length ≤ 1000000000) (hb : b < n₀) (J Jx : List Int → World → Prop)
    (hY : ∀ pre x W, J pre W → pre.length < zs.length → YieldAt Fence.wide (n - 1) Tryd.prog l #[.int .i64 x] W fun e W' =>
      (e = .returned (.bool true) ∧ J (pre ++ [x]) W' ∧ Below n₀ W W') ∨ (e = .returned (.bool false) ∧ Jx (pre ++ [x]) W'))
    (W : World) (hBs : W.cell? ⟨Bs, 0, none⟩ = some (.slice (some ⟨b, off, none⟩) zs.length cap)) (hc : ∀ j (h : j < zs.length), W.cell? ⟨b, off + j, none⟩ = some (.int .i64 zs[j])) (h0 : J [] W) :
    CallsIn Fence.wide n Tryd.prog 235 #[.func (.yield l) #[] #[], .pointer (some ⟨Bs, 0, none⟩)] W fun e W' => (∃ v, e = .returned v) ∧
      (J zs W' ∨ ∃ pre, pre <+: zs ∧ Jx pre W') := by
  refine callsIn_of_wp Tryd.func235 rfl trivial ?_ rfl
  simp only [Tryd.ntmps235, List.size_toArray, List.length_cons, List.length_nil, Nat.reduceAdd, Nat.reduceSub, Array.replicate_succ, Array.replicate_zero, List.push_toArray, List.append_toArray, List.nil_append, List.cons_append]
  gi_wp2
  gi_loopw [7] (fun i wr => ∃ k : Nat, k ≤ zs.length ∧ i = .int .i64 k ∧ J (zs.take k) wr ∧ Below n₀ W wr)
    (fun i _ => zs.length - (intOf i).toNat)
  case atStart => exact ⟨0, Nat.zero_le _, rfl, by simpa using h0, Below.refl _ _⟩
  case round =>
    obtain ⟨k, hk, rfl, hJs, hnx⟩ := hrel
    by_cases hlt : k < zs.length
    · have hcx' := (hnx.cell (p := ⟨b, off + k, none⟩) hb).trans (hc k hlt)
      obtain ⟨fn, tmps, assign, body, hy, hR⟩ := hY _ zs[k] wr hJs (by rw [List.length_take]; omega)
      gi_wp2
      refine hR.mono ?_
      rintro e W3 (⟨rfl, hJ3, hk3⟩ | ⟨rfl, hJx3⟩)
      · gi_wp2
        go_roundw
        case rel => exact ⟨k + 1, by omega, by simp, by rw [take_snoc zs k hlt]; exact hJ3, hnx.trans hk3⟩
        case measure => simp [intOf]; omega
      · gi_wp2
        refine bodyPost_ret (results_none rfl _ _ _) rfl ?_
        exact ⟨⟨_, rfl⟩, .inr ⟨_, by rw [← take_snoc zs k hlt]; exact List.take_prefix _ _, hJx3⟩⟩
    · obtain rfl : k = zs.length := by omega
      gi_wp2
      go_end0
      exact ⟨⟨_, rfl⟩, .inl (by rw [List.take_length] at hJs; exact hJs)⟩

set_option maxRecDepth 100000 in
set_option maxHeartbeats 1000000 in
theorem values1_nil_in (n l Bs : Nat) (p : Option Addr) (cap : Nat) (J : List Int → World → Prop) (W : World) (hBs : W.cell? ⟨Bs, 0, none⟩ = some (.slice p 0 cap)) (h0 : J [] W) :
    CallsIn Fence.wide n Tryd.prog 235 #[.func (.yield l) #[] #[], .pointer (some ⟨Bs, 0, none⟩)] W fun e W' => (∃ v, e = .returned v) ∧ J [] W' := by
  refine callsIn_of_wp Tryd.func235 rfl trivial ?_ rfl
  simp only [Tryd.ntmps235, List.size_toArray, List.length_cons, List.length_nil, Nat.reduceAdd, Nat.reduceSub, Array.replicate_succ, Array.replicate_zero, List.push_toArray, List.append_toArray, List.nil_append, List.cons_append]
  gi_wp2
  gi_loopw [7] (fun i wr => i = .int .i64 0 ∧ J [] wr) (fun _ _ => 0)
  case atStart => exact ⟨rfl, h0⟩
  case round =>
    obtain ⟨rfl, hJs⟩ := hrel
    gi_wp2
    go_end0
    exact ⟨⟨_, rfl⟩, hJs⟩

/-- The value holds the numbers, in a block below n₀. -/
def Held (n₀ : Nat) (W : World) (sv : Value) (zs : List Int) : Prop :=
  (zs = [] ∧ ∃ p cap, sv = .slice p 0 cap) ∨ ∃ b off cap, sv = .slice (some ⟨b, off, none⟩) zs.length cap ∧ b < n₀ ∧ ∀ j (h : j < zs.length), W.cell? ⟨b, off + j, none⟩ = some (.int .i64 zs[j])
theorem Held.below {n₀ : Nat} {X Y : World} (h : Below n₀ X Y) {sv : Value} {zs : List Int} : Held n₀ X sv zs → Held n₀ Y sv zs
  | .inl e => .inl e
  | .inr ⟨b, off, cap, e, hb, hc⟩ => .inr ⟨b, off, cap, e, hb, fun j hj => (h.cell (p := ⟨b, off + j, none⟩) hb).trans (hc j hj)⟩

theorem values_stops (n : Nat) (hn : 1 ≤ n) (Bs n₀ : Nat) (sv : Value) (zs : List Int) (hz : zs.length ≤ 1000000000) (w : World) (hBs : Bs < w.heap.size) (hn₀ : n₀ ≤ w.heap.size)
    (hc : w.cell? ⟨Bs, 0, none⟩ = some sv) (hI : Held n₀ w sv zs) :
    SeqStopsK Fence.wide n Tryd.prog 235 #[.pointer (some ⟨Bs, 0, none⟩)] (fun x : Int => #[Value.int .i64 x]) (Below n₀) (fun ys => ys = zs) (fun pre => pre <+: zs) zs.length w := fun l J Jx W hW _ _ hY h0 => by
  have hc' := (hW.cell (p := ⟨Bs, 0, none⟩) hBs).trans hc
  rcases hI.below (hW.mono hn₀) with ⟨rfl, p, cap, rfl⟩ | ⟨b, off, cap, rfl, hb, hcs⟩
  · exact (values1_nil_in n l Bs p cap J W hc' h0).mono fun e W' ⟨he, hj⟩ => ⟨he, .inl ⟨_, rfl, hj⟩⟩
  · refine (values1_in n hn l Bs n₀ b off cap zs hz hb J Jx hY W hc' hcs h0).mono ?_
    rintro e W' ⟨he, hj | ⟨pre, hp, hj⟩⟩
    · exact ⟨he, .inl ⟨_, rfl, hj⟩⟩
    · exact ⟨he, .inr ⟨_, hp, hj⟩⟩

set_option maxHeartbeats 1000000 in
theorem values_in (n : Nat) (a : Option Addr) (len cap : Nat) (w : World) :
    CallsIn Fence.wide n Tryd.prog 193 #[.slice a len cap] w fun e w' => e = .returned (.func (.func 235) #[] #[.pointer (some ⟨w.heap.size, 0, none⟩)]) ∧ w' = w.alloc (.cells #[.slice a len cap] 33) := by
  refine callsIn_of_wp Tryd.func193 rfl trivial ?_ rfl
  simp only [Tryd.ntmps193, List.size_toArray, List.length_cons, List.length_nil, Nat.reduceAdd, Nat.reduceSub, Array.replicate_succ, Array.replicate_zero, List.push_toArray, List.append_toArray, List.nil_append, List.cons_append]
  gi_wp2
  go_ret
  exact ⟨rfl, rfl⟩

theorem info64 : (Tryd.prog.info? 2).map (fun i => (i.zero, i.size, i.bytes)) = some (some (.int .i64 0), 1, 8) := by kernel_rfl

set_option maxRecDepth 100000 in
set_option maxHeartbeats 2000000 in
theorem appendSeq_in (n : Nat) (hn : 2 ≤ n) (Bs : Nat) (sv : Value) (zs : List Int) (hz : zs.length ≤ 1000000000) (w : World) (hBs : Bs < w.heap.size) (hc : w.cell? ⟨Bs, 0, none⟩ = some sv) (hI : Held w.heap.size w sv zs) :
    CallsIn Fence.wide n Tryd.prog 253 #[.slice none 0 0, .func (.func 235) #[] #[.pointer (some ⟨Bs, 0, none⟩)]] w fun e w' => ∃ v, e = .returned v ∧
      w'.ownsRow w.heap.size 2 1 v zs.length (zs.map (Value.int .i64)) ∧ Below w.heap.size w w' := by
  have h1 : 1 ≤ n := by omega
  obtain ⟨i0, hi, hz0, hz1, hz2⟩ := info_parts info64
  refine callsIn_of_wp_marks Tryd.func253 rfl trivial ?_ rfl
  simp only [Tryd.ntmps253, List.size_toArray, List.length_cons, List.length_nil, Nat.reduceAdd, Nat.reduceSub, Array.replicate_succ, Array.replicate_zero, List.push_toArray, List.append_toArray, List.nil_append, List.cons_append]
  gi_wp2
  have bS := Boxed.new w 33 (.slice none 0 0)
  have hB0 : Below w.heap.size w (w.alloc (.cells #[.slice none 0 0] 33)) := (Below.refl _ w).alloc (Nat.le_refl _) _
  refine wpIn_rangeFunc_ownG rfl h1 (gf := 235) (lb := #[.pointer (some ⟨Bs, 0, none⟩)]) rfl trivial (enters_of Tryd.func235 (by kernel_rfl) rfl)
    (values_stops (n - 1) (by omega) Bs w.heap.size _ zs hz _ (by simp; omega) (by simp) ((hB0.cell (p := ⟨Bs, 0, none⟩) hBs).trans hc) (hI.below hB0)) belowK_t (belowK_b (by simp)) (Below.refl _ _) (fun _ => rfl)
    (fun pre W => (∃ v, Boxed W w.heap.size 33 v ∧ W.ownsRow w.heap.size 2 1 v pre.length (pre.map (Value.int .i64)) ∧ True) ∧ Below w.heap.size w W)
    (fun _ _ _ => False)
    (OwnFrom.and (Own.from (holdsRow_own w.heap.size w.heap.size 33 2 1 (fun pre : List Int => pre.length) (fun pre => pre.map (Value.int .i64)) (fun _ _ => True)) _) (ownFrom_below (Nat.le_refl _) (by simp)))
    (fun _ _ _ _ _ hs _ _ => hs)
    ⟨⟨_, bS, World.ownsRow_nil _ _ _ _, trivial⟩, hB0⟩
    (fun x => { tmps := #[.slice none 0 0, .func (.func 235) #[] #[.pointer (some ⟨Bs, 0, none⟩)], .pointer (some ⟨w.heap.size, 0, none⟩), undef, .slice none 0 0, .int .i64 x, .func (.func 235) #[] #[.pointer (some ⟨Bs, 0, none⟩)], .int .i64 x, undef, undef, undef, undef, undef], defers := [] }) ?assign ?body ?done ?stop
  case assign =>
    intro l x W K hK
    have hss := @Oper.semAt_some
    gi_wp2
    exact hK
  case body =>
    rintro l pre x W ⟨⟨v, hv, hrow, _⟩, hB⟩ hlen
    have hvc := hv.cell
    have hsz := hB.size
    have hss := @Oper.semAt_some
    gi_wp2_with (gi_at_builtin; refine wpListIn_append_own _ rfl _ _ 33 rfl w.heap.size 2 i0 (.int .i64 0) 1 8 Tryd.underlying33 hi hz0 hz1 hz2 rfl (by decide) _ _ _ rfl (hrow.alloc _) ⟨W.heap.size, 0, none⟩ 1 1 [.int .i64 x] rfl rfl (cell_one_new _ _ _) (by simp [Value.oneCell']) (by simp only [maxLen]; omega) (by omega) (by simp; omega) ?_; intro v' w1 hown' hgrow _; obtain ⟨g', cap', rfl⟩ := ownsRow_succ hown'; obtain ⟨hv1, hv2, hr2, hk2, hb2⟩ := hv.appended (by decide) hrow hB.size (Nat.le_refl _) hown' hgrow; have hc1 := hv1.cell; have hf1 := hv1.frozen)
    exact ⟨hk2.from _, hb2, ⟨_, hv2, by simpa using hr2, trivial⟩, hB.trans hb2⟩
  case done =>
    rintro D ys W hD rfl ⟨⟨v, hv, hrow, _⟩, hB⟩ hK
    have hvc := hv.cell
    gi_wp2
    refine ⟨by simp, .inl ⟨_, _, rfl, run_takeDeferred hK, ?_⟩⟩
    exact ⟨_, results_tmp rfl _ _ _, v, rfl, ownsRow_putObj hrow _ hK rfl, hB.trans (belowK_b (w := w) (Nat.le_refl _) W D _ _ (by simp at hD; omega) hK rfl rfl)⟩
  case stop =>
    rintro D c pre W _ _ h _
    exact h.elim

end Go.Proofs.YtkppbmfliejnmaaDoor

/- Walks: slices.Sorted(slices.Values(s)), whole; the program's OrderOk. -/
namespace Go.Proofs.YtkppbmfliejnmaaDoor
open Go.RowKit Go.Sort Go.Shelf

theorem Held.of_nums {w : World} {v : Value} {xs : List Int} (h : Nums w 2 .i64 v xs) : Held w.heap.size w v xs := by
  obtain ⟨p, c, rfl, _, _, _, hat⟩ := id h.shape
  by_cases h0 : 0 < xs.length
  · obtain ⟨b, o, rfl, hc⟩ := hat.num h0
    refine .inr ⟨b, o, c, rfl, World.block_lt_of_cell? w _ hc, fun j hj => ?_⟩
    obtain ⟨_, _, e, hc'⟩ := hat.num hj
    cases e
    exact hc'
  · obtain rfl : xs = [] := List.eq_nil_of_length_eq_zero (by omega)
    exact .inl ⟨rfl, p, c, rfl⟩

theorem values_any (a : Option Addr) (len cap : Nat) (w : World) :
    Calls Tryd.prog 193 #[.slice a len cap] w fun e w' => e = .returned (.func (.func 235) #[] #[.pointer (some ⟨w.heap.size, 0, none⟩)]) ∧ w' = w.alloc (.cells #[.slice a len cap] 33) :=
  (callsIn_wide (n := 5)).1 (values_in 5 a len cap w)
theorem appendSeq_any (Bs : Nat) (sv : Value) (zs : List Int) (hz : zs.length ≤ 1000000000) (w : World) (hBs : Bs < w.heap.size) (hc : w.cell? ⟨Bs, 0, none⟩ = some sv) (hI : Held w.heap.size w sv zs) :
    Calls Tryd.prog 253 #[.slice none 0 0, .func (.func 235) #[] #[.pointer (some ⟨Bs, 0, none⟩)]] w fun e w' => ∃ v, e = .returned v ∧
      w'.ownsRow w.heap.size 2 1 v zs.length (zs.map (Value.int .i64)) ∧ Below w.heap.size w w' :=
  (callsIn_wide (n := 5)).1 (appendSeq_in 5 (by omega) Bs sv zs hz w hBs hc hI)

set_option maxRecDepth 100000 in
theorem collect_any (Bs : Nat) (sv : Value) (zs : List Int) (hz : zs.length ≤ 1000000000) (w : World) (hBs : Bs < w.heap.size) (hc : w.cell? ⟨Bs, 0, none⟩ = some sv) (hI : Held w.heap.size w sv zs) :
    Calls Tryd.prog 234 #[.func (.func 235) #[] #[.pointer (some ⟨Bs, 0, none⟩)]] w fun e w' => ∃ v, e = .returned v ∧
      w'.ownsRow w.heap.size 2 1 v zs.length (zs.map (Value.int .i64)) ∧ Below w.heap.size w w' := by
  have C := Lib.hid (appendSeq_any Bs sv zs hz w hBs hc hI)
  clear hc hI
  go_enter Tryd.func234, Tryd.ntmps234
  go_wp2_with (go_at_call 253; refine C.out.mono ?_; rintro e w2 ⟨v, rfl, hown, hb⟩)
  go_ret
  exact ⟨_, rfl, hown, hb⟩

theorem sort_any (blk off cap : Nat) (zs : List Int) (w : World) (hH : Holds (Value.int .i64) w blk off zs.toArray) (hblk : blk < w.heap.size) (hsz : zs.length < 4611686018427387904) :
    Calls Tryd.prog 159 #[.slice (some ⟨blk, off, none⟩) zs.length cap] w fun e w' =>
      e = .returned (.tuple #[]) ∧ ∃ n os, w' = grow (putRow (Value.int .i64) (Sort.ahead w n) blk off (zs.mergeSort fun x y => decide (x ≤ y)).toArray) os :=
  AnyM.slices_Sort_int sortA blk off cap zs w hH hblk hsz
theorem sort_none (p : Option Addr) (cap : Nat) (w : World) :
    Calls Tryd.prog 159 #[.slice p 0 cap] w fun e w' => e = .returned (.tuple #[]) ∧ w' = w :=
  AnyM.slices_Sort_int_none sortA p cap w

set_option maxRecDepth 100000 in
theorem sorted_any (Bs : Nat) (sv : Value) (zs : List Int) (hz : zs.length ≤ 1000000000) (w : World) (hBs : Bs < w.heap.size) (hc : w.cell? ⟨Bs, 0, none⟩ = some sv) (hI : Held w.heap.size w sv zs) :
    Calls Tryd.prog 192 #[.func (.func 235) #[] #[.pointer (some ⟨Bs, 0, none⟩)]] w fun e w' => ∃ v, e = .returned v ∧
      w'.ownsRow w.heap.size 2 1 v zs.length ((zs.mergeSort fun x y => decide (x ≤ y)).map (Value.int .i64)) ∧ Below w.heap.size w w' := by
  have C := Lib.hid (collect_any Bs sv zs hz w hBs hc hI)
  clear hc hI
  go_enter Tryd.func192, Tryd.ntmps192
  go_upto_region 2 with (go_at_call 234; refine C.out.mono ?_; rintro e w2 ⟨v, rfl, hown, hb⟩)
  rcases hown.2 with ⟨rfl, hz0⟩ | ⟨gb, cap, cur, rfl, hbase, hgb, r1, r2, r3, r4⟩
  · obtain rfl := List.eq_nil_of_length_eq_zero hz0
    have Hown := Lib.hid hown
    clear hown
    go_wp2_with (go_at_call 159; refine (sort_none none 0 _).mono ?_; rintro e w3 ⟨rfl, rfl⟩)
    go_ret
    exact ⟨_, rfl, by simpa using Hown.out, hb⟩
  · have hH : Hid (Holds (Value.int .i64) w2 gb 0 zs.toArray) := Lib.hid (holds_of_block_i hgb (by simpa using r4))
    have hgl : gb < w2.heap.size := (Array.getElem?_eq_some_iff.1 hgb).1
    have Hgb := Lib.hid hgb
    have R3 := Lib.hid r3
    clear hown hgb r4 r3
    go_wp2_with (go_at_call 159; refine (sort_any gb 0 cap zs _ hH.out hgl (by omega)).mono ?_; rintro e w3 ⟨rfl, nn, os, hw3⟩)
    go_ret
    subst hw3
    exact ⟨_, rfl, ownsRow_sorted_i (by simp) hbase Hgb.out r1 r2 R3.out, hb.grown (grownBy_sorted_i _) hb.size (fun j hj => by cases hj; exact hbase)⟩

end Go.Proofs.YtkppbmfliejnmaaDoor
