/- Walks: size (math/bits.OnesCount32 at sets of eight), bySize. -/
import Derived.Test.YtmakhapdlkbbnaaDoorMlQ32
import Derived.Lib.Tables
import Derived.Lib.BitFns
import Derived.Shelf.SlSortCmp.Whole1
import Derived.Shelf.SlGeneric
import Derived.Test.YtmakhapdlkbbnaaDoorProg
import Derived.Shelf.SlSortCmp.NoneTotal
import Derived.Test.YtmakhapdlkbbnaaDoorMlQ31
import Derived.Test.YtmakhapdlkbbnaaDoorMlQ2
namespace Go.Proofs.YtmakhapdlkbbnaaDoor
open Go.RowKit Go.Sort

theorem pop8_bits : ∀ n : Fin 256, Lib.pop8 (n.val : Int) = ((bitsOf n.val).length : Int) := by decide +kernel

set_option maxRecDepth 100000 in
set_option maxHeartbeats 1000000 in
theorem ones_any (s : Nat) (hs : s < 256) (w : World) :
    Calls Tryd.prog 233 #[.int .u32 s] w fun e w' => e = .returned (.int .i64 (bitsOf s).length) ∧ ∃ q, w' = w.drewN q := by
  have h24 : (s : Int) / 16777216 = 0 := by omega
  have h16 : (s : Int) / 65536 = 0 := by omega
  have h8 : (s : Int) / 256 = 0 := by omega
  have k24 : (s : Int) / 2 ^ 24 = 0 := by omega
  have k16 : (s : Int) / 2 ^ 16 = 0 := by omega
  have k8 : (s : Int) / 2 ^ 8 = 0 := by omega
  have a0 : bits BinOp.and IntKind.u32 0 255 = 0 := by decide
  have a255 : bits BinOp.and IntKind.u32 (s : Int) 255 = (s : Int) := by
    have e := u32_and_nat s 255 (by omega) (by decide)
    have e2 : s &&& 255 = s := by
      have := Nat.and_two_pow_sub_one_eq_mod s 8
      rw [show (2 ^ 8 - 1 : Nat) = 255 by decide] at this
      omega
    rw [e2] at e
    exact e
  have HH : Hid ((Lib.pop8 0 + Lib.pop8 0 + Lib.pop8 0 + Lib.pop8 (s : Int)) % 256 = ((bitsOf s).length : Int)) := Lib.hid (by
    have e0 : Lib.pop8 0 = 0 := by decide +kernel
    have e1 := pop8_bits ⟨s, hs⟩
    have e2 := bitsOf_length s
    simp only at e1
    rw [e0, e1]
    omega)
  have i0 : (0 : Int) ≤ (s : Int) := by omega
  have i1 : (s : Int) ≤ 255 := by omega
  go_enter Tryd.func233, Tryd.ntmps233
  go_wp2
  go_quiet (fail)
  go_wp2
  go_ret
  exact ⟨by rw [← HH.out]; rfl, _, rfl⟩

set_option maxHeartbeats 400000 in
theorem size_any (s : Nat) (hs : s < 256) (w : World) :
    Calls Tryd.prog 209 #[.int .u32 s] w fun e w' => e = .returned (.int .i64 (bitsOf s).length) ∧ ∃ q, w' = w.drewN q := by
  go_enter Tryd.func209, Tryd.ntmps209
  go_wp2_with (go_at_call 233; refine (ones_any s hs _).mono ?_; rintro e w2 ⟨rfl, q, rfl⟩)
  go_ret
  exact ⟨rfl, _, rfl⟩

/-- How two sets stand by size, then as lists. -/
noncomputable def cmpS (a b : List Nat) : Int := if a.length = b.length then cmpL a b else (a.length : Int) - b.length
theorem cmpS_lt {a b : List Nat} : cmpS a b < 0 ↔ lessP a b := by
  unfold cmpS lessP
  by_cases h : a.length = b.length
  · rw [if_pos h, cmpL_lt]
    exact ⟨fun k => .inr ⟨h, k⟩, fun k => k.elim (fun k => by omega) fun k => k.2⟩
  · rw [if_neg h]
    exact ⟨fun k => .inl (by omega), fun k => k.elim (fun k => by omega) fun k => absurd k.1 h⟩

set_option maxRecDepth 100000 in
set_option maxHeartbeats 1000000 in
theorem bySize_any (s t : Nat) (hs : s < 256) (ht : t < 256) (w : World) (hT : Tab w) :
    Calls Tryd.prog 160 #[.int .u32 s, .int .u32 t] w fun e w' => e = .returned (.int .i64 (cmpS (bitsOf s) (bitsOf t))) ∧ Below w.heap.size w w' ∧ w.drawn ≤ w'.drawn := by
  have HT := Lib.hid hT
  have h1 := bitsOf_length s
  have h2 := bitsOf_length t
  clear hT
  obtain ⟨a, ha⟩ : ∃ a, a = (bitsOf s).length := ⟨_, rfl⟩
  obtain ⟨b, hb⟩ : ∃ b, b = (bitsOf t).length := ⟨_, rfl⟩
  rw [← ha] at h1
  rw [← hb] at h2
  have HA := Lib.hid ha
  have HB := Lib.hid hb
  clear ha hb
  by_cases h : a = b
  · have hn : ((a : Int) != (b : Int)) = false := by simp [h]
    have HC : Hid (cmpS (bitsOf s) (bitsOf t) = cmpL (bitsOf s) (bitsOf t)) := Lib.hid (if_pos (by rw [← HA.out, ← HB.out]; exact h))
    clear h
    go_enter Tryd.func160, Tryd.ntmps160
    go_wp2_with (first
      | (go_at_call 206; refine (compareSets_any s t (by omega) (by omega) _ (HT.out.keep (below_dN (Below.refl _ _) _))).mono ?_; rintro e w4 ⟨rfl, hb4, hd4⟩)
      | (go_at_call 209; refine (size_any t ht _).mono ?_; rintro e w3 ⟨he3, q3, rfl⟩; rw [← HB.out] at he3; subst he3; have hq := q2)
      | (go_at_call 209; refine (size_any s hs _).mono ?_; rintro e w2 ⟨he2, q2, rfl⟩; rw [← HA.out] at he2; subst he2))
    go_ret
    exact ⟨by rw [HC.out]; rfl, (below_dN (Below.refl _ _) (q2 + q3)).trans hb4, by have hd : w.drawn + (q2 + q3) ≤ w4.drawn := hd4; omega⟩
  · have hn : ((a : Int) != (b : Int)) = true := by simp; omega
    have HC : Hid (cmpS (bitsOf s) (bitsOf t) = (a : Int) - (b : Int)) := Lib.hid (by rw [HA.out, HB.out]; exact if_neg (by rw [← HA.out, ← HB.out]; exact h))
    have i1 : (a : Int) ≤ 32 := by omega
    have i2 : (b : Int) ≤ 32 := by omega
    clear h
    go_enter Tryd.func160, Tryd.ntmps160
    go_wp2_with (first
      | (go_at_call 209; refine (size_any t ht _).mono ?_; rintro e w5 ⟨he5, q5, rfl⟩; rw [← HB.out] at he5; subst he5; have hq := q4)
      | (go_at_call 209; refine (size_any s hs _).mono ?_; rintro e w4 ⟨he4, q4, rfl⟩; rw [← HA.out] at he4; subst he4; have hq := q3)
      | (go_at_call 209; refine (size_any t ht _).mono ?_; rintro e w3 ⟨he3, q3, rfl⟩; rw [← HB.out] at he3; subst he3; have hq := q2)
      | (go_at_call 209; refine (size_any s hs _).mono ?_; rintro e w2 ⟨he2, q2, rfl⟩; rw [← HA.out] at he2; subst he2))
    go_ret
    refine ⟨by rw [HC.out]; rfl, below_dN (Below.refl _ _) _, ?_⟩
    show w.drawn ≤ w.drawn + _
    omega

end Go.Proofs.YtmakhapdlkbbnaaDoor

/- The library's SortFunc at sets: its functions' bodies as they lie in this program. -/
namespace Go.Proofs.YtmakhapdlkbbnaaDoor
open Go.Shelf

def sortF_ren : Go.Shelf.Ren := ⟨fun | 6 => 159 | 15 => 208 | 14 => 207 | 28 => 231 | 29 => 232 | 20 => 223 | 21 => 224 | 22 => 225 | 23 => 226 | 24 => 227 | 25 => 228 | 26 => 229 | 27 => 230 | 46 => 237 | 47 => 238 | 48 => 239 | 49 => 240 | 50 => 241 | 57 => 252 | n => n, fun | 22 => 75 | 24 => 79 | 25 => 133 | 3 => 3 | 39 => 94 | 0 => 0 | 53 => 78 | 55 => 26 | 4 => 4 | 46 => 179 | 45 => 178 | 50 => 183 | 5 => 5 | 9 => 9 | 66 => 189 | 70 => 193 | 76 => 201 | 77 => 202 | n => n, fun | n => n⟩
theorem sortF : Go.Proofs.SlLaysF.n6 Tryd.prog sortF_ren := {
  mixed := by kernel_rfl,
  f6 := ⟨Tryd.f159.name, by decide, Tryd.func159.trans (congrArg some (by kernel_rfl))⟩,
  f14 := ⟨Tryd.f207.name, by decide, Tryd.func207.trans (congrArg some (by kernel_rfl))⟩,
  f15 := Tryd.func208.trans (congrArg some (by kernel_rfl)),
  f20 := ⟨Tryd.f223.name, by decide, Tryd.func223.trans (congrArg some (by kernel_rfl))⟩,
  f21 := ⟨Tryd.f224.name, by decide, Tryd.func224.trans (congrArg some (by kernel_rfl))⟩,
  f22 := ⟨Tryd.f225.name, by decide, Tryd.func225.trans (congrArg some (by kernel_rfl))⟩,
  f23 := ⟨Tryd.f226.name, by decide, Tryd.func226.trans (congrArg some (by kernel_rfl))⟩,
  f24 := ⟨Tryd.f227.name, by decide, Tryd.func227.trans (congrArg some (by kernel_rfl))⟩,
  f25 := ⟨Tryd.f228.name, by decide, Tryd.func228.trans (congrArg some (by kernel_rfl))⟩,
  f26 := ⟨Tryd.f229.name, by decide, Tryd.func229.trans (congrArg some (by kernel_rfl))⟩,
  f27 := ⟨Tryd.f230.name, by decide, Tryd.func230.trans (congrArg some (by kernel_rfl))⟩,
  f28 := Tryd.func231.trans (congrArg some (by kernel_rfl)),
  f29 := Tryd.func232.trans (congrArg some (by kernel_rfl)),
  f46 := ⟨Tryd.f237.name, by decide, Tryd.func237.trans (congrArg some (by kernel_rfl))⟩,
  f47 := Tryd.func238.trans (congrArg some (by kernel_rfl)),
  f48 := Tryd.func239.trans (congrArg some (by kernel_rfl)),
  f49 := ⟨Tryd.f240.name, by decide, Tryd.func240.trans (congrArg some (by kernel_rfl))⟩,
  f50 := ⟨Tryd.f241.name, by decide, Tryd.func241.trans (congrArg some (by kernel_rfl))⟩,
  f57 := ⟨Tryd.f252.name, by decide, Tryd.func252.trans (congrArg some (by kernel_rfl))⟩,
  t0 := Tryd.underlying0,
  a0 := Tryd.isAgg0,
  z0 := Tryd.sizeOf0,
  v0 := Tryd.zeroValue0,
  t3 := Tryd.underlying3,
  a3 := Tryd.isAgg3,
  z3 := Tryd.sizeOf3,
  v3 := Tryd.zeroValue3,
  t4 := Tryd.underlying4,
  a4 := Tryd.isAgg4,
  z4 := Tryd.sizeOf4,
  v4 := Tryd.zeroValue4,
  t5 := Tryd.underlying5,
  a5 := Tryd.isAgg5,
  z5 := Tryd.sizeOf5,
  v5 := Tryd.zeroValue5,
  t9 := Tryd.underlying9,
  a9 := Tryd.isAgg9,
  z9 := Tryd.sizeOf9,
  v9 := Tryd.zeroValue9,
  t22 := Tryd.underlying75,
  a22 := Tryd.isAgg75,
  z22 := Tryd.sizeOf75,
  v22 := Tryd.zeroValue75,
  a24 := Tryd.isAgg79,
  z24 := Tryd.sizeOf79,
  t25 := Tryd.underlying133,
  a25 := Tryd.isAgg133,
  z25 := Tryd.sizeOf133,
  v25 := Tryd.zeroValue133,
  t39 := Tryd.underlying94,
  a39 := Tryd.isAgg94,
  z39 := Tryd.sizeOf94,
  v39 := Tryd.zeroValue94,
  t45 := Tryd.underlying178,
  a45 := Tryd.isAgg178,
  z45 := Tryd.sizeOf178,
  v45 := Tryd.zeroValue178,
  t46 := Tryd.underlying179,
  a46 := Tryd.isAgg179,
  z46 := Tryd.sizeOf179,
  v46 := Tryd.zeroValue179,
  t50 := Tryd.underlying183,
  a50 := Tryd.isAgg183,
  z50 := Tryd.sizeOf183,
  v50 := Tryd.zeroValue183,
  t53 := Tryd.underlying78,
  a53 := Tryd.isAgg78,
  z53 := Tryd.sizeOf78,
  v53 := Tryd.zeroValue78,
  t55 := Tryd.underlying26,
  a55 := Tryd.isAgg26,
  z55 := Tryd.sizeOf26,
  v55 := Tryd.zeroValue26,
  t66 := Tryd.underlying189,
  a66 := Tryd.isAgg189,
  z66 := Tryd.sizeOf189,
  v66 := Tryd.zeroValue189,
  t70 := Tryd.underlying193,
  a70 := Tryd.isAgg193,
  z70 := Tryd.sizeOf193,
  v70 := Tryd.zeroValue193,
  t76 := Tryd.underlying201,
  a76 := Tryd.isAgg201,
  z76 := Tryd.sizeOf201,
  v76 := Tryd.zeroValue201,
  t77 := Tryd.underlying202,
  a77 := Tryd.isAgg202,
  z77 := Tryd.sizeOf202,
  v77 := Tryd.zeroValue202 }

end Go.Proofs.YtmakhapdlkbbnaaDoor

/- Walks: slices.SortFunc over a row of sets, under an order that parts any two. -/
namespace Go.Proofs.YtmakhapdlkbbnaaDoor
open Go.Shelf Go.RowKit Go.Lib Go.Sort

/-- A set of 16 as a value. -/
def encF (x : Fin 65536) : Value := .int .u32 (x.val : Int)
theorem holds_of_block_f {w : World} {g : Nat} {cur : Array Value} {e : TypeId} {l : List (Fin 65536)} (hb : w.heap[g]? = some (.cells cur e (0, 0))) (ht : cur.toList.take l.length = l.map encF) : Holds encF w g 0 l.toArray := by
  intro j hj
  have hj' : j < l.length := by simpa using hj
  refine ⟨?_, by simp [World.frozen?, hb]⟩
  have h1 : (cur.toList.take l.length)[j]? = (l.map encF)[j]? := by rw [ht]
  rw [List.getElem?_take_of_lt hj'] at h1
  simp only [World.cell?, hb, Nat.zero_add]
  simp only [Option.isSome_none, Bool.false_eq_true, if_false]
  rw [← Array.getElem?_toList, h1]
  simp [hj']
theorem heap_sorted_f {w : World} {g n : Nat} {os : Array Obj} {cur : Array Value} {e : TypeId} {fr : Nat × Nat} (d : Array (Fin 65536)) (hb : w.heap[g]? = some (.cells cur e fr)) :
    (sortWorld encF w g 0 n d os).heap[g]? = some (.cells (putCells encF 0 d cur) e fr) := by
  have hg : g < w.heap.size := (Array.getElem?_eq_some_iff.1 hb).1
  unfold sortWorld
  rw [heap_grow_old _ _ (by simpa using hg)]
  simp [putRow, mapBlock, Sort.ahead, Array.getElem?_modify, hb, onCells]
theorem grownBy_sorted_f {w : World} {g n : Nat} {os : Array Obj} (d : Array (Fin 65536)) : w.grownBy (sortWorld encF w g 0 n d os) (some g) := by
  unfold sortWorld
  refine ⟨rfl, rfl, rfl, by simp, fun k hk hne => ?_⟩
  rw [heap_grow_old _ _ (by simpa using hk)]
  have : g ≠ k := fun e => hne (by rw [e])
  simp [putRow, mapBlock, Sort.ahead, Array.getElem?_modify, this]
theorem take_putCells_f (cur : Array Value) (ts : List (Fin 65536)) (h : ts.length ≤ cur.size) : (putCells encF 0 ts.toArray cur).toList.take ts.length = ts.map encF := by
  apply List.ext_getElem?
  intro j
  by_cases hj : j < ts.length
  · rw [List.getElem?_take_of_lt hj, Array.getElem?_toList]
    simp [putCells, hj, show j < cur.size by omega]
  · rw [List.getElem?_take_eq_none (by omega), List.getElem?_eq_none (by simp; omega)]
theorem ownsRow_sorted_f {w : World} {base g cap n : Nat} {e : TypeId} {os : Array Obj} {cur : Array Value} {ss ts : List (Fin 65536)} (hl : ts.length = ss.length) (hbase : base ≤ g) (hb : w.heap[g]? = some (.cells cur e (0, 0)))
    (h1 : ss.length ≤ cap) (h2 : cap ≤ maxLen) (h3 : cur.size = cap * 1) :
    (sortWorld encF w g 0 n ts.toArray os).ownsRow base e 1 (.slice (some ⟨g, 0, none⟩) ss.length cap) ss.length (ts.map encF) :=
  ⟨by simp [hl], .inr ⟨g, cap, _, rfl, hbase, heap_sorted_f _ hb, h1, h2, by simp [putCells, h3], by rw [Nat.mul_one, ← hl]; exact take_putCells_f cur ts (by omega)⟩⟩

/-- What is laid behind a world, and drawn, since it only grows. -/
theorem grow_of_below {w w' : World} (h : Below w.heap.size w w') (hd : w.drawn ≤ w'.drawn) : ∃ q os, w' = grow (w.drewN q) os := by
  obtain ⟨p, hp⟩ := regrown_of_below h
  subst hp
  have hd' : w.drawn ≤ p.d := hd
  refine ⟨p.d - w.drawn, p.os, ?_⟩
  have e : redrawn w p.d = w.drewN (p.d - w.drawn) := by
    unfold redrawn World.drewN
    rw [Nat.add_sub_cancel' hd']
  rw [e]
/-- What is asked of a comparison. -/
def CmpOk (f : FuncId) (cf : Fin 65536 → Fin 65536 → Int) : Prop :=
  ∀ (x y : Fin 65536) (W : World), Tab W → Calls Tryd.prog f #[encF x, encF y] W fun e w' => e = .returned (.int .i64 (cf x y)) ∧ Below W.heap.size W w' ∧ W.drawn ≤ w'.drawn
theorem CmpOk.lays {f : FuncId} {cf : Fin 65536 → Fin 65536 → Int} (h : CmpOk f cf) {blk size : Nat} {w : World} (hT : Tab w) (hne : 0 ≠ blk) : CmpLays1 Tryd.prog f #[] encF cf blk 0 size w := fun m os dk _ x y => by
  have hTW : Tab (sortWorld encF w blk 0 m dk os) := fun j hj => by
    unfold sortWorld
    have hl := World.block_lt_of_cell? w _ (hT j hj)
    rw [cell?_grow _ _ _ (by simpa using hl), cell?_putRow_other _ _ _ _ _ _ (.inl hne)]
    exact hT j hj
  refine (h x y _ hTW).mono fun e w' ⟨h1, h2, h3⟩ => ⟨h1, grow_of_below h2 h3⟩

set_option maxRecDepth 100000 in
theorem sortF_any (f : FuncId) (eg : ∀ args w, (callFunc f args).run Tryd.prog w = .ok (.enter f args) w) (cf : Fin 65536 → Fin 65536 → Int) (hO : SWO (ltOf cf)) (hT : ∀ x y, (ltOf cf) x y = false → (ltOf cf) y x = false → x = y) (hC : CmpOk f cf)
    (v : Value) (l : List (Fin 65536)) (base : Nat) (w : World) (hown : w.ownsRow base 79 1 v l.length (l.map encF)) (hTab : Tab w) (hb : 0 < base) (hl : l.length ≤ 1000000000) :
    Calls Tryd.prog 159 #[v, .func (.func f) #[] #[]] w fun e w' => e = .returned (.tuple #[]) ∧ w'.ownsRow base 79 1 v l.length ((l.mergeSort fun x y => !(ltOf cf) y x).map encF) ∧ w.grownBy w' v.ownBlock := by
  rcases id hown.2 with ⟨rfl, hz0⟩ | ⟨gb, cap, cur, rfl, hbase, hgb, r1, r2, r3, r4⟩
  · obtain rfl := List.eq_nil_of_length_eq_zero hz0
    have hc := AnyF.slices_SortFunc_none (P := Tryd.prog) (ρ := sortF_ren) { sortF with } none 0 (.func (.func f) #[] #[]) w
    refine Calls.mono hc ?_
    rintro e w3 ⟨rfl, rfl⟩
    exact ⟨rfl, by simpa using hown, World.grownBy.refl _ _⟩
  · have hH : Holds encF w gb 0 l.toArray := holds_of_block_f hgb (by simpa using r4)
    have hgl : gb < w.heap.size := (Array.getElem?_eq_some_iff.1 hgb).1
    have hc := Any.slices_SortFunc_total sortF encF (fun _ => rfl) cf hO f #[] gb 0 cap l.toArray w eg (hC.lays hTab (by omega)) hH hgl (by simp; omega) hT
    have hs : l.toArray.size = l.length := by simp
    rw [hs] at hc
    refine hc.mono ?_
    rintro e w3 ⟨rfl, nn, os, rfl⟩
    exact ⟨rfl, ownsRow_sorted_f (by simp) hbase hgb r1 r2 r3, grownBy_sorted_f _⟩

end Go.Proofs.YtmakhapdlkbbnaaDoor
