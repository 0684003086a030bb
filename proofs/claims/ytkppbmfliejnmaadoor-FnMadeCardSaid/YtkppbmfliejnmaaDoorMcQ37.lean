/- Walk: the program's EdgeParts. -/
import Derived.Test.YtkppbmfliejnmaaDoorMcQ31
import Derived.Test.YtkppbmfliejnmaaDoorMcQ36
import Derived.Shelf.SortM.Plain
import Derived.Shelf.SortM.SortNone
import Derived.Test.YtkppbmfliejnmaaDoorProg
import Derived.RangeFuncNested
import Derived.RangeFuncBound
import Derived.RangeFuncCalls
import Derived.RangeFuncLeaves
import Derived.RangeFuncWrites
import Derived.RangeFuncBox
import Derived.Shelf.Abstract
import Derived.Shelf.RegionOpen
import Derived.WalkKit
import Derived.OwnWalkIn
import Derived.TacticsInMore
import Derived.LoopNIn
import Derived.LoopIn
import Derived.Maps.AppendAt
import Derived.Sort.OwnSorted
import Derived.Test.YtkppbmfliejnmaaDoorMcQ2
import Derived.Lib.SlKeysI
import Derived.Test.YtkppbmfliejnmaaDoorMcQ4
import Derived.Test.YtkppbmfliejnmaaDoorMcQ6
namespace Go.Proofs.YtkppbmfliejnmaaDoor
open Go.RowKit

theorem mskL_lt {n : Nat} (hn : n ≤ 16) {ps : List (List Nat)} (h : ∀ l ∈ ps, l.Pairwise (· < ·) ∧ ∀ i ∈ l, i < n) : ∀ s ∈ mskL ps, s < 65536 := by
  intro s hs
  obtain ⟨l, hl, rfl⟩ := List.mem_map.1 hs
  exact mask_nat_lt16 fun i hi => by have := (h l hl).2 i hi; omega
theorem rowsOf_mskL {n : Nat} (hn : n ≤ 16) {ps : List (List Nat)} (h : ∀ l ∈ ps, l.Pairwise (· < ·) ∧ ∀ i ∈ l, i < n) : rowsOf (mskL ps) = ps.map natInts := by
  unfold rowsOf mskL
  rw [List.map_map]
  refine List.map_congr_left fun l hl => ?_
  show natInts (bitsOf (mask (natInts l))) = natInts l
  congr 1
  refine rising_ext _ _ (bitsOf_rising _) (h l hl).1 fun i => ?_
  rw [mem_left (mask_nat_lt16 fun i hi => by have := (h l hl).2 i hi; omega), mask_bit, decide_eq_true_eq]

/-- What the loop over the bridges carries. -/
structure EpI (w wr : World) (x ev : Value) (Bx Be n : Nat) (brs : List (Nat × Nat)) (F : Nat → Nat → Bool) : Prop where
  net : wr.ownsRow Bx 70 1 x n ((indN n F).map u32v)
  edg : PrsO wr Be ev brs
  bel : Below w.heap.size w wr
  tab : Tab wr
  tpos : 0 < w.heap.size
  b2 : w.heap.size ≤ Bx
theorem EpI.next {w wr wx : World} {x ev : Value} {Bx Be n : Nat} {brs : List (Nat × Nat)} {F : Nat → Nat → Bool} (h : EpI w wr x ev Bx Be n brs F) (hb : Below wr.heap.size wr wx) : EpI w wx x ev Bx Be n brs F :=
  ⟨ownsRow_below h.net hb, h.edg.below hb, h.bel.trans (hb.mono h.bel.size), h.tab.keep hb, h.tpos, h.b2⟩
theorem EpI.turn {w wr wx : World} {x ev : Value} {Bx Be n : Nat} {brs : List (Nat × Nat)} {F F' : Nat → Nat → Bool} (h : EpI w wr x ev Bx Be n brs F) (ho : wx.ownsRow Bx 70 1 x n ((indN n F').map u32v)) (hg : wr.grownBy wx x.ownBlock) : EpI w wx x ev Bx Be n brs F' :=
  ⟨ho, h.edg.otherT h.net hg, below_grown h.bel h.net hg h.b2 h.bel.size, h.tab.grownP hg (fun e => by
    have e' : x.ownBlock = some 0 := e.symm
    have := (h.net.lt _ e').1
    have := h.b2
    have := h.tpos
    omega), h.tpos, h.b2⟩

end Go.Proofs.YtkppbmfliejnmaaDoor

/- Walk: the parts of a graph, both answers (PartsOf). -/
namespace Go.Proofs.YtkppbmfliejnmaaDoor
open Go.RowKit

/-- What both answer. -/
def PtS (g : List (List Int)) (gg : List (List Int)) : Prop :=
  (GOk g ∧ ∃ ps, Parts (ofG g) (List.range g.length) ps ∧ gg = ps.map natInts) ∨ (¬ GOk g ∧ gg = [])
theorem ptS_det {g gg hh : List (List Int)} (h : PtS g gg) (h2 : PtS g hh) : gg = hh := by
  rcases h with ⟨hg, ps, h, rfl⟩ | ⟨hg, rfl⟩ <;> rcases h2 with ⟨hg2, qs, h2, rfl⟩ | ⟨hg2, rfl⟩
  · rw [parts_det h h2]
  · exact absurd hg hg2
  · exact absurd hg2 hg
  · rfl

set_option maxRecDepth 100000 in
set_option maxHeartbeats 2000000 in
theorem specPartsOf_any (v : Value) (g : List (List Int)) (w : World) (hg : Gr w v g) :
    Calls Tryd.prog 61 #[v] w fun e w' => ∃ (u : Value) (gg : List (List Int)), e = .returned u ∧ PtS g gg ∧ SG w' w.heap.size (.agg #[u]) gg ∧ gg.length ≤ 16 ∧ (∀ j, (row gg j).length ≤ 16) ∧ Below w.heap.size w w' := by
  have hg0 := hg
  obtain ⟨u, rfl, hr⟩ := hg
  obtain ⟨p, c, rfl, _⟩ := hr.shape
  have hbA := Lib.hid (below_alloc w (.cells #[.slice p g.length c] 29))
  have HG := Lib.hid (hg0.below hbA.out)
  have BX := Lib.hid (Box.new w (.slice p g.length c) 29)
  clear hr hg0
  by_cases hok : GOk g
  case neg =>
    have hd := Lib.hid (dec_false hok)
    have Hok := Lib.hid hok
    clear hok
    go_enter Tryd.func61, Tryd.ntmps61
    go_wp2_with (go_at_call 73; refine (specGraphOk_any _ g _ HG.out).mono ?_; rintro e w2 ⟨he, hb2⟩; rw [hd.out] at he; subst he)
    go_ret
    have hb2' := hbA.out.trans (hb2.mono hbA.out.size)
    exact ⟨_, [], rfl, .inr ⟨Hok.out, rfl⟩, ⟨_, [], rfl, rfl, ownsRow_base (ownsRow_empty w2 _ 1) hb2'.size, fun j hj => by simp at hj⟩, by simp, fun j => by simp [row], hb2'.trans ((below_alloc w2 _).mono hb2'.size)⟩
  have hd := Lib.hid (dec_true hok)
  have h16 := hok.le
  have HOK := Lib.hid hok
  clear hok
  go_enter Tryd.func61, Tryd.ntmps61
  go_upto_region 3 with (go_at_call 73; refine (specGraphOk_any _ g _ HG.out).mono ?_; rintro e w2 ⟨he, hb2⟩; rw [hd.out] at he; subst he)
  have hbx := (BX.out.keep hb2).cell
  have HG2 := Lib.hid (HG.out.below hb2)
  have HB2 := Lib.hid (hbA.out.trans (hb2.mono hbA.out.size))
  clear hb2
  go_cut [2] (fun s wx => ∃ (ps : List (List Nat)), Parts (ofG g) (List.range g.length) ps ∧ SG wx w2.heap.size (.agg #[s]) (ps.map natInts) ∧ ps.length ≤ 16 ∧ (∀ l ∈ ps, l.Pairwise (· < ·) ∧ ∀ x ∈ l, x ∈ List.range g.length) ∧ Below w2.heap.size w2 wx)
  case first =>
    go_region_held3 (fun w' => w'.cell? ⟨w.heap.size, 0, none⟩ = some (.slice p g.length c))
      (first | go_keep | exact hbx | exact BWC.at' hbx | exact BWB.at' hbx | exact BWA.at' hbx)
      (first
        | (go_at_call 147; refine (l3Parts_any _ _ g (List.range g.length) HOK.out (by rw [List.length_range]; exact h16) List.pairwise_lt_range (fun x hx => List.mem_range.1 hx) _ (HG2.out.below BWB) HL.out).mono ?_; rintro e w5 ⟨r, ps, rfl, hp5, hs5, hl5, hm5, hb5⟩; have HP5 := Lib.hid (And.intro hp5 (And.intro hl5 hm5)); have HS5 := Lib.hid (sg_base hs5 BWB.size); have BWC : Below w2.heap.size w2 w5 := BWB.trans (hb5.mono BWB.size); clear hp5 hs5 hl5 hm5 hb5)
        | (go_at_call 143; refine (l1All_any _ g.length rfl (by omega) _).mono ?_; rintro e w4 ⟨lv, rfl, ho4, hb4⟩; have HL := Lib.hid (Nums.of_owns ho4 (by rw [natInts_length, List.length_range]) (by omega)); have BWB : Below w2.heap.size w2 w4 := BWA.trans (hb4.mono BWA.size); clear ho4 hb4)
        | (go_at_call 132; refine (l1Size_any _ g _ (by first | exact HG2.out.below (below_dN (Below.refl _ _) 1))).mono ?_; rintro e w3 ⟨rfl, hb3⟩; have BWA : Below w2.heap.size w2 w3 := (below_dN (Below.refl _ _) 1).trans hb3; clear hb3))
    all_goals go_wp2
    all_goals go_meet
    all_goals exact ⟨ps, HP5.out.1, HS5.out, HP5.out.2.1, HP5.out.2.2, BWC⟩
  case rest =>
    obtain ⟨ps, hp, hs, hl, hm, hb⟩ := hcut
    have HP := Lib.hid hp
    have HS := Lib.hid hs
    have HM := Lib.hid hm
    have HBX := Lib.hid hb
    clear hp hs hm hb
    go_wp2
    go_ret
    refine ⟨_, ps.map natInts, rfl, .inl ⟨HOK.out, ps, HP.out, rfl⟩, sg_base HS.out HB2.out.size, by rw [List.length_map]; exact hl, fun j => ?_, HB2.out.trans (HBX.out.mono HB2.out.size)⟩
    by_cases hj : j < ps.length
    · have e : row (ps.map natInts) j = natInts ps[j] := by simp [row, hj]
      rw [e, natInts_length]
      have h3 := HM.out ps[j] (List.getElem_mem hj)
      have := rising_sub_len List.pairwise_lt_range h3.1 h3.2
      rw [List.length_range] at this
      omega
    · have e : row (ps.map natInts) j = [] := by simp [row, hj]
      rw [e]; simp

end Go.Proofs.YtkppbmfliejnmaaDoor

/- The library's sort at rows of int64: its functions' bodies as they lie in this program. -/
namespace Go.Proofs.YtkppbmfliejnmaaDoor
open Go.Shelf

def sortA_ren : Go.Shelf.Ren := ⟨fun | 5 => 159 | 8 => 190 | 7 => 211 | 19 => 231 | 20 => 232 | 10 => 238 | 11 => 239 | 12 => 240 | 13 => 241 | 14 => 242 | 15 => 243 | 16 => 244 | 17 => 245 | 18 => 246 | 30 => 257 | 31 => 249 | 32 => 250 | 33 => 258 | 34 => 259 | 35 => 256 | 40 => 262 | n => n, fun | 23 => 33 | 25 => 2 | 3 => 3 | 32 => 83 | 22 => 33 | 0 => 0 | 44 => 69 | 46 => 26 | 4 => 4 | 36 => 172 | 35 => 171 | 41 => 176 | 5 => 5 | 9 => 9 | 53 => 189 | 57 => 193 | 63 => 198 | 64 => 199 | n => n, fun | n => n⟩
theorem sortA : Go.Proofs.SlLaysM.n5 Tryd.prog sortA_ren := {
  mixed := by kernel_rfl,
  f5 := ⟨Tryd.f159.name, by decide, Tryd.func159.trans (congrArg some (by kernel_rfl))⟩,
  f7 := ⟨Tryd.f211.name, by decide, Tryd.func211.trans (congrArg some (by kernel_rfl))⟩,
  f8 := Tryd.func190.trans (congrArg some (by kernel_rfl)),
  f10 := ⟨Tryd.f238.name, by decide, Tryd.func238.trans (congrArg some (by kernel_rfl))⟩,
  f11 := ⟨Tryd.f239.name, by decide, Tryd.func239.trans (congrArg some (by kernel_rfl))⟩,
  f12 := ⟨Tryd.f240.name, by decide, Tryd.func240.trans (congrArg some (by kernel_rfl))⟩,
  f13 := ⟨Tryd.f241.name, by decide, Tryd.func241.trans (congrArg some (by kernel_rfl))⟩,
  f14 := ⟨Tryd.f242.name, by decide, Tryd.func242.trans (congrArg some (by kernel_rfl))⟩,
  f15 := ⟨Tryd.f243.name, by decide, Tryd.func243.trans (congrArg some (by kernel_rfl))⟩,
  f16 := ⟨Tryd.f244.name, by decide, Tryd.func244.trans (congrArg some (by kernel_rfl))⟩,
  f17 := ⟨Tryd.f245.name, by decide, Tryd.func245.trans (congrArg some (by kernel_rfl))⟩,
  f18 := ⟨Tryd.f246.name, by decide, Tryd.func246.trans (congrArg some (by kernel_rfl))⟩,
  f19 := Tryd.func231.trans (congrArg some (by kernel_rfl)),
  f20 := Tryd.func232.trans (congrArg some (by kernel_rfl)),
  f30 := ⟨Tryd.f257.name, by decide, Tryd.func257.trans (congrArg some (by kernel_rfl))⟩,
  f31 := Tryd.func249.trans (congrArg some (by kernel_rfl)),
  f32 := Tryd.func250.trans (congrArg some (by kernel_rfl)),
  f33 := ⟨Tryd.f258.name, by decide, Tryd.func258.trans (congrArg some (by kernel_rfl))⟩,
  f34 := ⟨Tryd.f259.name, by decide, Tryd.func259.trans (congrArg some (by kernel_rfl))⟩,
  f35 := ⟨Tryd.f256.name, by decide, Tryd.func256.trans (congrArg some (by kernel_rfl))⟩,
  f40 := ⟨Tryd.f262.name, by decide, Tryd.func262.trans (congrArg some (by kernel_rfl))⟩,
  t0 := Tryd.underlying0,
  a0 := Tryd.isAgg0,
  z0 := Tryd.sizeOf0,
  v0 := Tryd.zeroValue0,
  t3 := Tryd.underlying3,
  a3 := Tryd.isAgg3,
  z3 := Tryd.sizeOf3,
  v3 := Tryd.zeroValue3,
  t4 := Tryd.underlying4,
  a4 := Tryd.isAgg4,
  z4 := Tryd.sizeOf4,
  v4 := Tryd.zeroValue4,
  t5 := Tryd.underlying5,
  a5 := Tryd.isAgg5,
  z5 := Tryd.sizeOf5,
  v5 := Tryd.zeroValue5,
  t9 := Tryd.underlying9,
  a9 := Tryd.isAgg9,
  z9 := Tryd.sizeOf9,
  v9 := Tryd.zeroValue9,
  t22 := Tryd.underlying33,
  a22 := Tryd.isAgg33,
  z22 := Tryd.sizeOf33,
  v22 := Tryd.zeroValue33,
  t23 := Tryd.underlying33,
  a23 := Tryd.isAgg33,
  z23 := Tryd.sizeOf33,
  v23 := Tryd.zeroValue33,
  t25 := Tryd.underlying2,
  a25 := Tryd.isAgg2,
  z25 := Tryd.sizeOf2,
  v25 := Tryd.zeroValue2,
  t32 := Tryd.underlying83,
  a32 := Tryd.isAgg83,
  z32 := Tryd.sizeOf83,
  v32 := Tryd.zeroValue83,
  t35 := Tryd.underlying171,
  a35 := Tryd.isAgg171,
  z35 := Tryd.sizeOf171,
  v35 := Tryd.zeroValue171,
  t36 := Tryd.underlying172,
  a36 := Tryd.isAgg172,
  z36 := Tryd.sizeOf172,
  v36 := Tryd.zeroValue172,
  t41 := Tryd.underlying176,
  a41 := Tryd.isAgg176,
  z41 := Tryd.sizeOf176,
  v41 := Tryd.zeroValue176,
  t44 := Tryd.underlying69,
  a44 := Tryd.isAgg69,
  z44 := Tryd.sizeOf69,
  v44 := Tryd.zeroValue69,
  t46 := Tryd.underlying26,
  a46 := Tryd.isAgg26,
  z46 := Tryd.sizeOf26,
  v46 := Tryd.zeroValue26,
  t53 := Tryd.underlying189,
  a53 := Tryd.isAgg189,
  z53 := Tryd.sizeOf189,
  v53 := Tryd.zeroValue189,
  t57 := Tryd.underlying193,
  a57 := Tryd.isAgg193,
  z57 := Tryd.sizeOf193,
  v57 := Tryd.zeroValue193,
  t63 := Tryd.underlying198,
  a63 := Tryd.isAgg198,
  z63 := Tryd.sizeOf198,
  v63 := Tryd.zeroValue198,
  t64 := Tryd.underlying199,
  a64 := Tryd.isAgg199,
  z64 := Tryd.sizeOf199,
  v64 := Tryd.zeroValue199 }

end Go.Proofs.YtkppbmfliejnmaaDoor

/- Walks: slices.Sorted(slices.Values(s)) at rows of int64. -/
namespace Go.Proofs.YtkppbmfliejnmaaDoor
open Go.RowKit Go.Shelf Go.Sort

set_option maxRecDepth 100000 in
set_option maxHeartbeats 2000000 in
theorem values1_in (n : Nat) (hn : 1 ≤ n) (l Bs n₀ b off cap : Nat) (zs : List Int) (hz : zs.length ≤ 1000000000) (hb : b < n₀) (J Jx : List Int → World → Prop)
    (hY : ∀ pre x W, J pre W → pre.length < zs.length → YieldAt Fence.wide (n - 1) Tryd.prog l #[.int .i64 x] W fun e W' =>
      (e = .returned (.bool true) ∧ J (pre ++ [x]) W' ∧ Below n₀ W W') ∨ (e = .returned (.bool false) ∧ Jx (pre ++ [x]) W'))
    (W : World) (hBs : W.cell? ⟨Bs, 0, none⟩ = some (.slice (some ⟨b, off, none⟩) zs.length cap)) (hc : ∀ j (h : j < zs.length), W.cell? ⟨b, off + j, none⟩ = some (.int .i64 zs[j])) (h0 : J [] W) :
    CallsIn Fence.wide n Tryd.prog 235 #[.func (.yield l) #[] #[], .pointer (some ⟨Bs, 0, none⟩)] W fun e W' => (∃ v, e = .returned v) ∧
      (J zs W' ∨ ∃ pre, pre <+: zs ∧ Jx pre W') := by
  refine callsIn_of_wp Tryd.func235 rfl trivial ?_ rfl
  simp only [Tryd.ntmps235, List.size_toArray, List.length_cons, List.length_nil, Nat.reduceAdd, Nat.reduceSub, Array.replicate_succ, Array.replicate_zero, List.push_toArray, List.append_toArray, List.nil_append, List.cons_append]
  gi_wp2
  gi_loopw [7] (fun i wr => ∃ k : Nat, k ≤ zs.length ∧ i = .int .i64 k ∧ J (zs.take k) wr ∧ Below n₀ W wr)
    (fun i _ => zs.length - (intOf i).toNat)
  case atStart => exact ⟨0, Nat.zero_le _, rfl, by simpa using h0, Below.refl _ _⟩
  case round =>
    obtain ⟨k, hk, rfl, hJs, hnx⟩ := hrel
    by_cases hlt : k < zs.length
    · have hcx' := (hnx.cell (p := ⟨b, off + k, none⟩) hb).trans (hc k hlt)
      obtain ⟨fn, tmps, assign, body, hy, hR⟩ := hY _ zs[k] wr hJs (by rw [List.length_take]; omega)
      gi_wp2
      refine hR.mono ?_
      rintro e W3 (⟨rfl, hJ3, hk3⟩ | ⟨rfl, hJx3⟩)
      · gi_wp2
        go_roundw
        case rel => exact ⟨k + 1, by omega, by simp, by rw [take_snoc zs k hlt]; exact hJ3, hnx.trans hk3⟩
        case measure => simp [intOf]; omega
      · gi_wp2
        refine bodyPost_ret (results_none rfl _ _ _) rfl ?_
        exact ⟨⟨_, rfl⟩, .inr ⟨_, by rw [← take_snoc zs k hlt]; exact List.take_prefix _ _, hJx3⟩⟩
    · obtain rfl : k = zs.length := by omega
      gi_wp2
      go_end0
      exact ⟨⟨_, rfl⟩, .inl (by rw [List.take_length] at hJs; exact hJs)⟩

set_option maxRecDepth 100000 in
set_option maxHeartbeats 1000000 in
theorem values1_nil_in (n l Bs : Nat) (p : Option Addr) (cap : Nat) (J : List Int → World → Prop) (W : World) (hBs : W.cell? ⟨Bs, 0, none⟩ = some (.slice p 0 cap)) (h0 : J [] W) :
    CallsIn Fence.wide n Tryd.prog 235 #[.func (.yield l) #[] #[], .pointer (some ⟨Bs, 0, none⟩)] W fun e W' => (∃ v, e = .returned v) ∧ J [] W' := by
  refine callsIn_of_wp Tryd.func235 rfl trivial ?_ rfl
  simp only [Tryd.ntmps235, List.size_toArray, List.length_cons, List.length_nil, Nat.reduceAdd, Nat.reduceSub, Array.replicate_succ, Array.replicate_zero, List.push_toArray, List.append_toArray, List.nil_append, List.cons_append]
  gi_wp2
  gi_loopw [7] (fun i wr => i = .int .i64 0 ∧ J [] wr) (fun _ _ => 0)
  case atStart => exact ⟨rfl, h0⟩
  case round =>
    obtain ⟨rfl, hJs⟩ := hrel
    gi_wp2
    go_end0
    exact ⟨⟨_, rfl⟩, hJs⟩

/-- The value holds the numbers, in a block below n₀. -/
def Held (n₀ : Nat) (W : World) (sv : Value) (zs : List Int) : Prop :=
  (zs = [] ∧ ∃ p cap, sv = .slice p 0 cap) ∨ ∃ b off cap, sv = .slice (some ⟨b, off, none⟩) zs.length cap ∧ b < n₀ ∧ ∀ j (h : j < zs.length), W.cell? ⟨b, off + j, none⟩ = some (.int .i64 zs[j])
theorem Held.below {n₀ : Nat} {X Y : World} (h : Below n₀ X Y) {sv : Value} {zs : List Int} : Held n₀ X sv zs → Held n₀ Y sv zs
  | .inl e => .inl e
  | .inr ⟨b, off, cap, e, hb, hc⟩ => .inr ⟨b, off, cap, e, hb, fun j hj => (h.cell (p := ⟨b, off + j, none⟩) hb).trans (hc j hj)⟩

theorem values_stops (n : Nat) (hn : 1 ≤ n) (Bs n₀ : Nat) (sv : Value) (zs : List Int) (hz : zs.length ≤ 1000000000) (w : World) (hBs : Bs < w.heap.size) (hn₀ : n₀ ≤ w.heap.size)
    (hc : w.cell? ⟨Bs, 0, none⟩ = some sv) (hI : Held n₀ w sv zs) :
    SeqStopsK Fence.wide n Tryd.prog 235 #[.pointer (some ⟨Bs, 0, none⟩)] (fun x : Int => #[Value.int .i64 x]) (Below n₀) (fun ys => ys = zs) (fun pre => pre <+: zs) zs.length w := fun l J Jx W hW _ _ hY h0 => by
  have hc' := (hW.cell (p := ⟨Bs, 0, none⟩) hBs).trans hc
  rcases hI.below (hW.mono hn₀) with ⟨rfl, p, cap, rfl⟩ | ⟨b, off, cap, rfl, hb, hcs⟩
  · exact (values1_nil_in n l Bs p cap J W hc' h0).mono fun e W' ⟨he, hj⟩ => ⟨he, .inl ⟨_, rfl, hj⟩⟩
  · refine (values1_in n hn l Bs n₀ b off cap zs hz hb J Jx hY W hc' hcs h0).mono ?_
    rintro e W' ⟨he, hj | ⟨pre, hp, hj⟩⟩
    · exact ⟨he, .inl ⟨_, rfl, hj⟩⟩
    · exact ⟨he, .inr ⟨_, hp, hj⟩⟩

set_option maxHeartbeats 1000000 in
theorem values_in (n : Nat) (a : Option Addr) (len cap : Nat) (w : World) :
    CallsIn Fence.wide n Tryd.prog 193 #[.slice a len cap] w fun e w' => e = .returned (.func (.func 235) #[] #[.pointer (some ⟨w.heap.size, 0, none⟩)]) ∧ w' = w.alloc (.cells #[.slice a len cap] 33) := by
  refine callsIn_of_wp Tryd.func193 rfl trivial ?_ rfl
  simp only [Tryd.ntmps193, List.size_toArray, List.length_cons, List.length_nil, Nat.reduceAdd, Nat.reduceSub, Array.replicate_succ, Array.replicate_zero, List.push_toArray, List.append_toArray, List.nil_append, List.cons_append]
  gi_wp2
  go_ret
  exact ⟨rfl, rfl⟩

theorem info64 : (Tryd.prog.info? 2).map (fun i => (i.zero, i.size, i.bytes)) = some (some (.int .i64 0), 1, 8) := by kernel_rfl

set_option maxRecDepth 100000 in
set_option maxHeartbeats 2000000 in
theorem appendSeq_in (n : Nat) (hn : 2 ≤ n) (Bs : Nat) (sv : Value) (zs : List Int) (hz : zs.length ≤ 1000000000) (w : World) (hBs : Bs < w.heap.size) (hc : w.cell? ⟨Bs, 0, none⟩ = some sv) (hI : Held w.heap.size w sv zs) :
    CallsIn Fence.wide n Tryd.prog 253 #[.slice none 0 0, .func (.func 235) #[] #[.pointer (some ⟨Bs, 0, none⟩)]] w fun e w' => ∃ v, e = .returned v ∧
      w'.ownsRow w.heap.size 2 1 v zs.length (zs.map (Value.int .i64)) ∧ Below w.heap.size w w' := by
  have h1 : 1 ≤ n := by omega
  obtain ⟨i0, hi, hz0, hz1, hz2⟩ := info_parts info64
  refine callsIn_of_wp_marks Tryd.func253 rfl trivial ?_ rfl
  simp only [Tryd.ntmps253, List.size_toArray, List.length_cons, List.length_nil, Nat.reduceAdd, Nat.reduceSub, Array.replicate_succ, Array.replicate_zero, List.push_toArray, List.append_toArray, List.nil_append, List.cons_append]
  gi_wp2
  have bS := Boxed.new w 33 (.slice none 0 0)
  have hB0 : Below w.heap.size w (w.alloc (.cells #[.slice none 0 0] 33)) := (Below.refl _ w).alloc (Nat.le_refl _) _
  refine wpIn_rangeFunc_ownG rfl h1 (gf := 235) (lb := #[.pointer (some ⟨Bs, 0, none⟩)]) rfl trivial (enters_of Tryd.func235 (by kernel_rfl) rfl)
    (values_stops (n - 1) (by omega) Bs w.heap.size _ zs hz _ (by simp; omega) (by simp) ((hB0.cell (p := ⟨Bs, 0, none⟩) hBs).trans hc) (hI.below hB0)) belowK_t (belowK_b (by simp)) (Below.refl _ _) (fun _ => rfl)
    (fun pre W => (∃ v, Boxed W w.heap.size 33 v ∧ W.ownsRow w.heap.size 2 1 v pre.length (pre.map (Value.int .i64)) ∧ True) ∧ Below w.heap.size w W)
    (fun _ _ _ => False)
    (OwnFrom.and (Own.from (holdsRow_own w.heap.size w.heap.size 33 2 1 (fun pre : List Int => pre.length) (fun pre => pre.map (Value.int .i64)) (fun _ _ => True)) _) (ownFrom_below (Nat.le_refl _) (by simp)))
    (fun _ _ _ _ _ hs _ _ => hs)
    ⟨⟨_, bS, World.ownsRow_nil _ _ _ _, trivial⟩, hB0⟩
    (fun x => { tmps := #[.slice none 0 0, .func (.func 235) #[] #[.pointer (some ⟨Bs, 0, none⟩)], .pointer (some ⟨w.heap.size, 0, none⟩), undef, .slice none 0 0, .int .i64 x, .func (.func 235) #[] #[.pointer (some ⟨Bs, 0, none⟩)], .int .i64 x, undef, undef, undef, undef, undef], defers := [] }) ?assign ?body ?done ?stop
  case assign =>
    intro l x W K hK
    have hss := @Oper.semAt_some
    gi_wp2
    exact hK
  case body =>
    rintro l pre x W ⟨⟨v, hv, hrow, _⟩, hB⟩ hlen
    have hvc := hv.cell
    have hsz := hB.size
    have hss := @Oper.semAt_some
    gi_wp2_with (gi_at_builtin; refine wpListIn_append_own _ rfl _ _ 33 rfl w.heap.size 2 i0 (.int .i64 0) 1 8 Tryd.underlying33 hi hz0 hz1 hz2 rfl (by decide) _ _ _ rfl (hrow.alloc _) ⟨W.heap.size, 0, none⟩ 1 1 [.int .i64 x] rfl rfl (cell_one_new _ _ _) (by simp [Value.oneCell']) (by simp only [maxLen]; omega) (by omega) (by simp; omega) ?_; intro v' w1 hown' hgrow _; obtain ⟨g', cap', rfl⟩ := ownsRow_succ hown'; obtain ⟨hv1, hv2, hr2, hk2, hb2⟩ := hv.appended (by decide) hrow hB.size (Nat.le_refl _) hown' hgrow; have hc1 := hv1.cell; have hf1 := hv1.frozen)
    exact ⟨hk2.from _, hb2, ⟨_, hv2, by simpa using hr2, trivial⟩, hB.trans hb2⟩
  case done =>
    rintro D ys W hD rfl ⟨⟨v, hv, hrow, _⟩, hB⟩ hK
    have hvc := hv.cell
    gi_wp2
    refine ⟨by simp, .inl ⟨_, _, rfl, run_takeDeferred hK, ?_⟩⟩
    exact ⟨_, results_tmp rfl _ _ _, v, rfl, ownsRow_putObj hrow _ hK rfl, hB.trans (belowK_b (w := w) (Nat.le_refl _) W D _ _ (by simp at hD; omega) hK rfl rfl)⟩
  case stop =>
    rintro D c pre W _ _ h _
    exact h.elim

end Go.Proofs.YtkppbmfliejnmaaDoor

/- Walks: slices.Sorted(slices.Values(s)), whole; the program's OrderOk. -/
namespace Go.Proofs.YtkppbmfliejnmaaDoor
open Go.RowKit Go.Sort Go.Shelf

theorem Held.of_nums {w : World} {v : Value} {xs : List Int} (h : Nums w 2 .i64 v xs) : Held w.heap.size w v xs := by
  obtain ⟨p, c, rfl, _, _, _, hat⟩ := id h.shape
  by_cases h0 : 0 < xs.length
  · obtain ⟨b, o, rfl, hc⟩ := hat.num h0
    refine .inr ⟨b, o, c, rfl, World.block_lt_of_cell? w _ hc, fun j hj => ?_⟩
    obtain ⟨_, _, e, hc'⟩ := hat.num hj
    cases e
    exact hc'
  · obtain rfl : xs = [] := List.eq_nil_of_length_eq_zero (by omega)
    exact .inl ⟨rfl, p, c, rfl⟩

theorem values_any (a : Option Addr) (len cap : Nat) (w : World) :
    Calls Tryd.prog 193 #[.slice a len cap] w fun e w' => e = .returned (.func (.func 235) #[] #[.pointer (some ⟨w.heap.size, 0, none⟩)]) ∧ w' = w.alloc (.cells #[.slice a len cap] 33) :=
  (callsIn_wide (n := 5)).1 (values_in 5 a len cap w)
theorem appendSeq_any (Bs : Nat) (sv : Value) (zs : List Int) (hz : zs.length ≤ 1000000000) (w : World) (hBs : Bs < w.heap.size) (hc : w.cell? ⟨Bs, 0, none⟩ = some sv) (hI : Held w.heap.size w sv zs) :
    Calls Tryd.prog 253 #[.slice none 0 0, .func (.func 235) #[] #[.pointer (some ⟨Bs, 0, none⟩)]] w fun e w' => ∃ v, e = .returned v ∧
      w'.ownsRow w.heap.size 2 1 v zs.length (zs.map (Value.int .i64)) ∧ Below w.heap.size w w' :=
  (callsIn_wide (n := 5)).1 (appendSeq_in 5 (by omega) Bs sv zs hz w hBs hc hI)

set_option maxRecDepth 100000 in
theorem collect_any (Bs : Nat) (sv : Value) (zs : List Int) (hz : zs.length ≤ 1000000000) (w : World) (hBs : Bs < w.heap.size) (hc : w.cell? ⟨Bs, 0, none⟩ = some sv) (hI : Held w.heap.size w sv zs) :
    Calls Tryd.prog 234 #[.func (.func 235) #[] #[.pointer (some ⟨Bs, 0, none⟩)]] w fun e w' => ∃ v, e = .returned v ∧
      w'.ownsRow w.heap.size 2 1 v zs.length (zs.map (Value.int .i64)) ∧ Below w.heap.size w w' := by
  have C := Lib.hid (appendSeq_any Bs sv zs hz w hBs hc hI)
  clear hc hI
  go_enter Tryd.func234, Tryd.ntmps234
  go_wp2_with (go_at_call 253; refine C.out.mono ?_; rintro e w2 ⟨v, rfl, hown, hb⟩)
  go_ret
  exact ⟨_, rfl, hown, hb⟩

theorem sort_any (blk off cap : Nat) (zs : List Int) (w : World) (hH : Holds (Value.int .i64) w blk off zs.toArray) (hblk : blk < w.heap.size) (hsz : zs.length < 4611686018427387904) :
    Calls Tryd.prog 159 #[.slice (some ⟨blk, off, none⟩) zs.length cap] w fun e w' =>
      e = .returned (.tuple #[]) ∧ ∃ n os, w' = grow (putRow (Value.int .i64) (Sort.ahead w n) blk off (zs.mergeSort fun x y => decide (x ≤ y)).toArray) os :=
  AnyM.slices_Sort_int sortA blk off cap zs w hH hblk hsz
theorem sort_none (p : Option Addr) (cap : Nat) (w : World) :
    Calls Tryd.prog 159 #[.slice p 0 cap] w fun e w' => e = .returned (.tuple #[]) ∧ w' = w :=
  AnyM.slices_Sort_int_none sortA p cap w

set_option maxRecDepth 100000 in
theorem sorted_any (Bs : Nat) (sv : Value) (zs : List Int) (hz : zs.length ≤ 1000000000) (w : World) (hBs : Bs < w.heap.size) (hc : w.cell? ⟨Bs, 0, none⟩ = some sv) (hI : Held w.heap.size w sv zs) :
    Calls Tryd.prog 192 #[.func (.func 235) #[] #[.pointer (some ⟨Bs, 0, none⟩)]] w fun e w' => ∃ v, e = .returned v ∧
      w'.ownsRow w.heap.size 2 1 v zs.length ((zs.mergeSort fun x y => decide (x ≤ y)).map (Value.int .i64)) ∧ Below w.heap.size w w' := by
  have C := Lib.hid (collect_any Bs sv zs hz w hBs hc hI)
  clear hc hI
  go_enter Tryd.func192, Tryd.ntmps192
  go_upto_region 2 with (go_at_call 234; refine C.out.mono ?_; rintro e w2 ⟨v, rfl, hown, hb⟩)
  rcases hown.2 with ⟨rfl, hz0⟩ | ⟨gb, cap, cur, rfl, hbase, hgb, r1, r2, r3, r4⟩
  · obtain rfl := List.eq_nil_of_length_eq_zero hz0
    have Hown := Lib.hid hown
    clear hown
    go_wp2_with (go_at_call 159; refine (sort_none none 0 _).mono ?_; rintro e w3 ⟨rfl, rfl⟩)
    go_ret
    exact ⟨_, rfl, by simpa using Hown.out, hb⟩
  · have hH : Hid (Holds (Value.int .i64) w2 gb 0 zs.toArray) := Lib.hid (holds_of_block_i hgb (by simpa using r4))
    have hgl : gb < w2.heap.size := (Array.getElem?_eq_some_iff.1 hgb).1
    have Hgb := Lib.hid hgb
    have R3 := Lib.hid r3
    clear hown hgb r4 r3
    go_wp2_with (go_at_call 159; refine (sort_any gb 0 cap zs _ hH.out hgl (by omega)).mono ?_; rintro e w3 ⟨rfl, nn, os, hw3⟩)
    go_ret
    subst hw3
    exact ⟨_, rfl, ownsRow_sorted_i (by simp) hbase Hgb.out r1 r2 R3.out, hb.grown (grownBy_sorted_i _) hb.size (fun j hj => by cases hj; exact hbase)⟩

end Go.Proofs.YtkppbmfliejnmaaDoor
