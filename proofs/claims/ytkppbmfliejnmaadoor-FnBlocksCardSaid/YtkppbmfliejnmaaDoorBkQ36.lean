/- The library's SortFunc at sets: its functions' bodies as they lie in this program. -/
import Derived.Shelf.SlSortCmp.Whole1
import Derived.Shelf.SlGeneric
import Derived.Test.YtkppbmfliejnmaaDoorProg
import Derived.Shelf.SlSortCmp.NoneTotal
import Derived.Test.YtkppbmfliejnmaaDoorBkQ35
import Derived.Test.YtkppbmfliejnmaaDoorBkQ4
import Derived.Test.YtkppbmfliejnmaaDoorBkQ33
import Derived.Test.YtkppbmfliejnmaaDoorBkQ14
import Derived.Test.YtkppbmfliejnmaaDoorBkQ6
import Derived.Test.YtkppbmfliejnmaaDoorBkQ11
import Derived.Test.YtkppbmfliejnmaaDoorBkQ26
import Derived.Test.YtkppbmfliejnmaaDoorBkQ31
namespace Go.Proofs.YtkppbmfliejnmaaDoor
open Go.Shelf

def sortF_ren : Go.Shelf.Ren := ⟨fun | 6 => 111 | 15 => 190 | 14 => 189 | 28 => 231 | 29 => 232 | 20 => 223 | 21 => 224 | 22 => 225 | 23 => 226 | 24 => 227 | 25 => 228 | 26 => 229 | 27 => 230 | 46 => 248 | 47 => 249 | 48 => 250 | 49 => 251 | 50 => 252 | 57 => 261 | n => n, fun | 22 => 72 | 24 => 70 | 25 => 90 | 3 => 3 | 39 => 83 | 0 => 0 | 53 => 69 | 55 => 26 | 4 => 4 | 46 => 172 | 45 => 171 | 50 => 176 | 5 => 5 | 9 => 9 | 66 => 189 | 70 => 193 | 76 => 198 | 77 => 199 | n => n, fun | n => n⟩
theorem sortF : Go.Proofs.SlLaysF.n6 Tryd.prog sortF_ren := {
  mixed := by kernel_rfl,
  f6 := ⟨Tryd.f111.name, by decide, Tryd.func111.trans (congrArg some (by kernel_rfl))⟩,
  f14 := ⟨Tryd.f189.name, by decide, Tryd.func189.trans (congrArg some (by kernel_rfl))⟩,
  f15 := Tryd.func190.trans (congrArg some (by kernel_rfl)),
  f20 := ⟨Tryd.f223.name, by decide, Tryd.func223.trans (congrArg some (by kernel_rfl))⟩,
  f21 := ⟨Tryd.f224.name, by decide, Tryd.func224.trans (congrArg some (by kernel_rfl))⟩,
  f22 := ⟨Tryd.f225.name, by decide, Tryd.func225.trans (congrArg some (by kernel_rfl))⟩,
  f23 := ⟨Tryd.f226.name, by decide, Tryd.func226.trans (congrArg some (by kernel_rfl))⟩,
  f24 := ⟨Tryd.f227.name, by decide, Tryd.func227.trans (congrArg some (by kernel_rfl))⟩,
  f25 := ⟨Tryd.f228.name, by decide, Tryd.func228.trans (congrArg some (by kernel_rfl))⟩,
  f26 := ⟨Tryd.f229.name, by decide, Tryd.func229.trans (congrArg some (by kernel_rfl))⟩,
  f27 := ⟨Tryd.f230.name, by decide, Tryd.func230.trans (congrArg some (by kernel_rfl))⟩,
  f28 := Tryd.func231.trans (congrArg some (by kernel_rfl)),
  f29 := Tryd.func232.trans (congrArg some (by kernel_rfl)),
  f46 := ⟨Tryd.f248.name, by decide, Tryd.func248.trans (congrArg some (by kernel_rfl))⟩,
  f47 := Tryd.func249.trans (congrArg some (by kernel_rfl)),
  f48 := Tryd.func250.trans (congrArg some (by kernel_rfl)),
  f49 := ⟨Tryd.f251.name, by decide, Tryd.func251.trans (congrArg some (by kernel_rfl))⟩,
  f50 := ⟨Tryd.f252.name, by decide, Tryd.func252.trans (congrArg some (by kernel_rfl))⟩,
  f57 := ⟨Tryd.f261.name, by decide, Tryd.func261.trans (congrArg some (by kernel_rfl))⟩,
  t0 := Tryd.underlying0,
  a0 := Tryd.isAgg0,
  z0 := Tryd.sizeOf0,
  v0 := Tryd.zeroValue0,
  t3 := Tryd.underlying3,
  a3 := Tryd.isAgg3,
  z3 := Tryd.sizeOf3,
  v3 := Tryd.zeroValue3,
  t4 := Tryd.underlying4,
  a4 := Tryd.isAgg4,
  z4 := Tryd.sizeOf4,
  v4 := Tryd.zeroValue4,
  t5 := Tryd.underlying5,
  a5 := Tryd.isAgg5,
  z5 := Tryd.sizeOf5,
  v5 := Tryd.zeroValue5,
  t9 := Tryd.underlying9,
  a9 := Tryd.isAgg9,
  z9 := Tryd.sizeOf9,
  v9 := Tryd.zeroValue9,
  t22 := Tryd.underlying72,
  a22 := Tryd.isAgg72,
  z22 := Tryd.sizeOf72,
  v22 := Tryd.zeroValue72,
  a24 := Tryd.isAgg70,
  z24 := Tryd.sizeOf70,
  t25 := Tryd.underlying90,
  a25 := Tryd.isAgg90,
  z25 := Tryd.sizeOf90,
  v25 := Tryd.zeroValue90,
  t39 := Tryd.underlying83,
  a39 := Tryd.isAgg83,
  z39 := Tryd.sizeOf83,
  v39 := Tryd.zeroValue83,
  t45 := Tryd.underlying171,
  a45 := Tryd.isAgg171,
  z45 := Tryd.sizeOf171,
  v45 := Tryd.zeroValue171,
  t46 := Tryd.underlying172,
  a46 := Tryd.isAgg172,
  z46 := Tryd.sizeOf172,
  v46 := Tryd.zeroValue172,
  t50 := Tryd.underlying176,
  a50 := Tryd.isAgg176,
  z50 := Tryd.sizeOf176,
  v50 := Tryd.zeroValue176,
  t53 := Tryd.underlying69,
  a53 := Tryd.isAgg69,
  z53 := Tryd.sizeOf69,
  v53 := Tryd.zeroValue69,
  t55 := Tryd.underlying26,
  a55 := Tryd.isAgg26,
  z55 := Tryd.sizeOf26,
  v55 := Tryd.zeroValue26,
  t66 := Tryd.underlying189,
  a66 := Tryd.isAgg189,
  z66 := Tryd.sizeOf189,
  v66 := Tryd.zeroValue189,
  t70 := Tryd.underlying193,
  a70 := Tryd.isAgg193,
  z70 := Tryd.sizeOf193,
  v70 := Tryd.zeroValue193,
  t76 := Tryd.underlying198,
  a76 := Tryd.isAgg198,
  z76 := Tryd.sizeOf198,
  v76 := Tryd.zeroValue198,
  t77 := Tryd.underlying199,
  a77 := Tryd.isAgg199,
  z77 := Tryd.sizeOf199,
  v77 := Tryd.zeroValue199 }

end Go.Proofs.YtkppbmfliejnmaaDoor

/- Walks: slices.SortFunc over a row of sets, under an order that parts any two. -/
namespace Go.Proofs.YtkppbmfliejnmaaDoor
open Go.Shelf Go.RowKit Go.Lib Go.Sort

/-- A set of 16 as a value. -/
def encF (x : Fin 65536) : Value := .int .u32 (x.val : Int)
theorem holds_of_block_f {w : World} {g : Nat} {cur : Array Value} {e : TypeId} {l : List (Fin 65536)} (hb : w.heap[g]? = some (.cells cur e (0, 0))) (ht : cur.toList.take l.length = l.map encF) : Holds encF w g 0 l.toArray := by
  intro j hj
  have hj' : j < l.length := by simpa using hj
  refine ⟨?_, by simp [World.frozen?, hb]⟩
  have h1 : (cur.toList.take l.length)[j]? = (l.map encF)[j]? := by rw [ht]
  rw [List.getElem?_take_of_lt hj'] at h1
  simp only [World.cell?, hb, Nat.zero_add]
  simp only [Option.isSome_none, Bool.false_eq_true, if_false]
  rw [← Array.getElem?_toList, h1]
  simp [hj']
theorem heap_sorted_f {w : World} {g n : Nat} {os : Array Obj} {cur : Array Value} {e : TypeId} {fr : Nat × Nat} (d : Array (Fin 65536)) (hb : w.heap[g]? = some (.cells cur e fr)) :
    (sortWorld encF w g 0 n d os).heap[g]? = some (.cells (putCells encF 0 d cur) e fr) := by
  have hg : g < w.heap.size := (Array.getElem?_eq_some_iff.1 hb).1
  unfold sortWorld
  rw [heap_grow_old _ _ (by simpa using hg)]
  simp [putRow, mapBlock, Sort.ahead, Array.getElem?_modify, hb, onCells]
theorem grownBy_sorted_f {w : World} {g n : Nat} {os : Array Obj} (d : Array (Fin 65536)) : w.grownBy (sortWorld encF w g 0 n d os) (some g) := by
  unfold sortWorld
  refine ⟨rfl, rfl, rfl, by simp, fun k hk hne => ?_⟩
  rw [heap_grow_old _ _ (by simpa using hk)]
  have : g ≠ k := fun e => hne (by rw [e])
  simp [putRow, mapBlock, Sort.ahead, Array.getElem?_modify, this]
theorem take_putCells_f (cur : Array Value) (ts : List (Fin 65536)) (h : ts.length ≤ cur.size) : (putCells encF 0 ts.toArray cur).toList.take ts.length = ts.map encF := by
  apply List.ext_getElem?
  intro j
  by_cases hj : j < ts.length
  · rw [List.getElem?_take_of_lt hj, Array.getElem?_toList]
    simp [putCells, hj, show j < cur.size by omega]
  · rw [List.getElem?_take_eq_none (by omega), List.getElem?_eq_none (by simp; omega)]
theorem ownsRow_sorted_f {w : World} {base g cap n : Nat} {e : TypeId} {os : Array Obj} {cur : Array Value} {ss ts : List (Fin 65536)} (hl : ts.length = ss.length) (hbase : base ≤ g) (hb : w.heap[g]? = some (.cells cur e (0, 0)))
    (h1 : ss.length ≤ cap) (h2 : cap ≤ maxLen) (h3 : cur.size = cap * 1) :
    (sortWorld encF w g 0 n ts.toArray os).ownsRow base e 1 (.slice (some ⟨g, 0, none⟩) ss.length cap) ss.length (ts.map encF) :=
  ⟨by simp [hl], .inr ⟨g, cap, _, rfl, hbase, heap_sorted_f _ hb, h1, h2, by simp [putCells, h3], by rw [Nat.mul_one, ← hl]; exact take_putCells_f cur ts (by omega)⟩⟩

/-- What is laid behind a world, and drawn, since it only grows. -/
theorem grow_of_below {w w' : World} (h : Below w.heap.size w w') (hd : w.drawn ≤ w'.drawn) : ∃ q os, w' = grow (w.drewN q) os := by
  obtain ⟨p, hp⟩ := regrown_of_below h
  subst hp
  have hd' : w.drawn ≤ p.d := hd
  refine ⟨p.d - w.drawn, p.os, ?_⟩
  have e : redrawn w p.d = w.drewN (p.d - w.drawn) := by
    unfold redrawn World.drewN
    rw [Nat.add_sub_cancel' hd']
  rw [e]
/-- What is asked of a comparison. -/
def CmpOk (f : FuncId) (cf : Fin 65536 → Fin 65536 → Int) : Prop :=
  ∀ (x y : Fin 65536) (W : World), Tab W → Calls Tryd.prog f #[encF x, encF y] W fun e w' => e = .returned (.int .i64 (cf x y)) ∧ Below W.heap.size W w' ∧ W.drawn ≤ w'.drawn
theorem CmpOk.lays {f : FuncId} {cf : Fin 65536 → Fin 65536 → Int} (h : CmpOk f cf) {blk size : Nat} {w : World} (hT : Tab w) (hne : 0 ≠ blk) : CmpLays1 Tryd.prog f #[] encF cf blk 0 size w := fun m os dk _ x y => by
  have hTW : Tab (sortWorld encF w blk 0 m dk os) := fun j hj => by
    unfold sortWorld
    have hl := World.block_lt_of_cell? w _ (hT j hj)
    rw [cell?_grow _ _ _ (by simpa using hl), cell?_putRow_other _ _ _ _ _ _ (.inl hne)]
    exact hT j hj
  refine (h x y _ hTW).mono fun e w' ⟨h1, h2, h3⟩ => ⟨h1, grow_of_below h2 h3⟩

set_option maxRecDepth 100000 in
theorem sortF_any (f : FuncId) (eg : ∀ args w, (callFunc f args).run Tryd.prog w = .ok (.enter f args) w) (cf : Fin 65536 → Fin 65536 → Int) (hO : SWO (ltOf cf)) (hT : ∀ x y, (ltOf cf) x y = false → (ltOf cf) y x = false → x = y) (hC : CmpOk f cf)
    (v : Value) (l : List (Fin 65536)) (base : Nat) (w : World) (hown : w.ownsRow base 70 1 v l.length (l.map encF)) (hTab : Tab w) (hb : 0 < base) (hl : l.length ≤ 1000000000) :
    Calls Tryd.prog 111 #[v, .func (.func f) #[] #[]] w fun e w' => e = .returned (.tuple #[]) ∧ w'.ownsRow base 70 1 v l.length ((l.mergeSort fun x y => !(ltOf cf) y x).map encF) ∧ w.grownBy w' v.ownBlock := by
  rcases id hown.2 with ⟨rfl, hz0⟩ | ⟨gb, cap, cur, rfl, hbase, hgb, r1, r2, r3, r4⟩
  · obtain rfl := List.eq_nil_of_length_eq_zero hz0
    have hc := AnyF.slices_SortFunc_none (P := Tryd.prog) (ρ := sortF_ren) { sortF with } none 0 (.func (.func f) #[] #[]) w
    refine Calls.mono hc ?_
    rintro e w3 ⟨rfl, rfl⟩
    exact ⟨rfl, by simpa using hown, World.grownBy.refl _ _⟩
  · have hH : Holds encF w gb 0 l.toArray := holds_of_block_f hgb (by simpa using r4)
    have hgl : gb < w.heap.size := (Array.getElem?_eq_some_iff.1 hgb).1
    have hc := Any.slices_SortFunc_total sortF encF (fun _ => rfl) cf hO f #[] gb 0 cap l.toArray w eg (hC.lays hTab (by omega)) hH hgl (by simp; omega) hT
    have hs : l.toArray.size = l.length := by simp
    rw [hs] at hc
    refine hc.mono ?_
    rintro e w3 ⟨rfl, nn, os, rfl⟩
    exact ⟨rfl, ownsRow_sorted_f (by simp) hbase hgb r1 r2 r3, grownBy_sorted_f _⟩

end Go.Proofs.YtkppbmfliejnmaaDoor

/- Walks: cliquesOf and CliquesOf of the program. -/
namespace Go.Proofs.YtkppbmfliejnmaaDoor
open Go.RowKit Go.Sort

noncomputable def cmpF (x y : Fin 65536) : Int := cmpL (bitsOf x.val) (bitsOf y.val)
theorem ltF {x y : Fin 65536} : ltOf cmpF x y = true ↔ lexL (bitsOf x.val) (bitsOf y.val) := by
  unfold ltOf cmpF
  rw [decide_eq_true_iff, cmpL_lt]
theorem ltF_no {x y : Fin 65536} : ltOf cmpF x y = false ↔ ¬ lexL (bitsOf x.val) (bitsOf y.val) := by
  rw [← ltF]
  simp
theorem swoF : SWO (ltOf cmpF) where
  irrefl x := ltF_no.2 (lexL_irrefl _)
  trans x y z h1 h2 := ltF.2 (lexL_trans (ltF.1 h1) (ltF.1 h2))
  ntrans x y z h1 h2 := by
    rw [ltF_no] at *
    intro h
    by_cases hyx : lexL (bitsOf y.val) (bitsOf x.val)
    · exact h2 (lexL_trans hyx h)
    · rw [lexL_tri _ _ h1 hyx] at h
      exact h2 h
theorem totF (x y : Fin 65536) (h1 : ltOf cmpF x y = false) (h2 : ltOf cmpF y x = false) : x = y := by
  have e := lexL_tri _ _ (ltF_no.1 h1) (ltF_no.1 h2)
  have := congrArg (fun l => mask (natInts l)) e
  simp only [mask_bitsOf x.isLt, mask_bitsOf y.isLt] at this
  exact Fin.ext this
theorem cmpOkF : CmpOk 188 cmpF := fun x y W hT =>
  compareSets_any x.val y.val (by have := x.isLt; omega) (by have := y.isLt; omega) W hT
def toF (L : List (List Nat)) : List (Fin 65536) := L.map fun l => ⟨mask (natInts l) % 65536, Nat.mod_lt _ (by decide)⟩
theorem toF_enc {L : List (List Nat)} (h : ∀ l ∈ L, mask (natInts l) < 65536) : (toF L).map encF = mskV L := by
  unfold toF mskV mskC
  rw [List.map_map, List.map_map]
  refine List.map_congr_left fun l hl => ?_
  simp only [Function.comp, encF, u32v, Nat.mod_eq_of_lt (h l hl)]
theorem toF_sort {L : List (List Nat)} (h : ∀ l ∈ L, l.Pairwise (· < ·) ∧ ∀ y ∈ l, y < 16) (hs : L.Pairwise lexL) : (toF L).mergeSort (fun x y => !ltOf cmpF y x) = toF L := by
  refine List.mergeSort_of_pairwise ?_
  unfold toF
  rw [List.pairwise_map]
  refine List.Pairwise.imp_of_mem (fun {a b} ha hb hab => ?_) hs
  have ea : bitsOf (mask (natInts a) % 65536) = a := by rw [Nat.mod_eq_of_lt (mask_nat_lt16 (h a ha).2)]; exact bitsOf_maskN (h a ha).1 (h a ha).2
  have eb : bitsOf (mask (natInts b) % 65536) = b := by rw [Nat.mod_eq_of_lt (mask_nat_lt16 (h b hb).2)]; exact bitsOf_maskN (h b hb).1 (h b hb).2
  have hn : ltOf cmpF ⟨mask (natInts b) % 65536, Nat.mod_lt _ (by decide)⟩ ⟨mask (natInts a) % 65536, Nat.mod_lt _ (by decide)⟩ = false := by
    rw [ltF_no]
    show ¬ lexL (bitsOf (mask (natInts b) % 65536)) (bitsOf (mask (natInts a) % 65536))
    rw [ea, eb]
    exact fun k => lexL_irrefl _ (lexL_trans hab k)
  simp [hn]
theorem bits_allC {n : Nat} (hn : n ≤ 16) : 2 ^ n - 1 < 65536 ∧ List.range n = bitsOf (2 ^ n - 1) := by
  have h16 : 2 ^ n - 1 < 65536 := by
    have : 2 ^ n ≤ 2 ^ 16 := Nat.pow_le_pow_right (by decide) hn
    have h2 : (2 : Nat) ^ 16 = 65536 := by decide
    have : 0 < 2 ^ n := Nat.two_pow_pos n
    omega
  refine ⟨h16, rising_ext _ _ List.pairwise_lt_range (bitsOf_rising _) fun i => ?_⟩
  rw [mem_bitsOf' (by omega), testBit_firstOf]
  simp

set_option maxRecDepth 100000 in
set_option maxHeartbeats 2000000 in
theorem cliquesOf_any (g : List (List Int)) (xp : Option Addr) (xc : Nat) (w : World) (hB : ClBase w g xp xc) :
    Calls Tryd.prog 110 #[.slice xp g.length xc] w fun e w' => ∃ v, e = .returned v ∧ w'.ownsRow w.heap.size 70 1 v (clsP g.length (adG g)).length (mskV (clsP g.length (adG g))) ∧ Below w.heap.size w w' := by
  have HB := Lib.hid hB
  have h16 := hB.ok.le
  obtain ⟨hM16, hMl⟩ := bits_allC h16
  obtain ⟨M, hM⟩ : ∃ M, M = 2 ^ g.length - 1 := ⟨_, rfl⟩
  rw [← hM] at hM16 hMl
  have HM := Lib.hid hM
  have HMl := Lib.hid hMl
  have hin : Hid (∀ l ∈ clsP g.length (adG g), l.Pairwise (· < ·) ∧ ∀ y ∈ l, y < 16) := Lib.hid (fun l hl => ⟨(clsP_mem hl).1, fun y hy => by have := (clsP_mem hl).2 y hy; omega⟩)
  have hpl : Hid ((clsP g.length (adG g)).length ≤ 65536) := Lib.hid (Nat.le_trans (clsP_len _ _) (Nat.le_trans (Nat.pow_le_pow_right (by decide) h16) (by decide)))
  have G1 : Hid (Calls Tryd.prog 187 #[.slice xp g.length xc, .int .u32 0, .int .u32 (M : Int), .int .u32 0, .slice none 0 0] w fun e w' => ClR w (clsP g.length (adG g)) w (.slice none 0 0) e w') := Lib.hid (by
    have := growCliques_any g xp xc w HB.out (g.length + 1) [] (List.range g.length) [] 0 M 0 0 M 0 rfl rfl rfl (by decide) hM16 (by decide) (fun j => by simp) HMl.out (fun j hj => List.mem_range.1 hj) (fun j => by simp) (by rw [List.length_range]; omega) w (.slice none 0 0) [] (Below.refl _ _) (World.ownsRow_nil _ _ _ _) (by
      rw [List.length_range]
      have := Nat.pow_le_pow_right (show 0 < 2 by decide) h16
      simp
      omega)
    simpa [clsP] using this)
  have heg : Hid (∀ args w, (callFunc 188 args).run Tryd.prog w = .ok (.enter 188 args) w) := Lib.hid (enters_of Tryd.func188 (by kernel_rfl) rfl)
  have htp := Lib.hid HB.out.tab.pos
  clear hB hM16 hMl hM
  go_enter Tryd.func110, Tryd.ntmps110
  go_wp2_with (first
    | (go_at_call 111; refine (sortF_any 188 heg.out cmpF swoF totF cmpOkF _ (toF (clsP g.length (adG g))) w.heap.size _ HO3.out (HB.out.tab.keep HB3.out) htp.out (by rw [show (toF (clsP g.length (adG g))).length = (clsP g.length (adG g)).length by simp [toF]]; have := hpl.out; omega)).mono ?_; rintro e w4 ⟨rfl, ho4, hg4⟩; have HO4 := Lib.hid ho4; clear ho4)
    | (go_at_call 187; refine G1.out.mono ?_; rintro e w3 ⟨v3, rfl, ho3, hg3, _⟩; have HB3 : Hid (Below w.heap.size w w3) := Lib.hid (grown_below hg3); have HO3 : Hid (w3.ownsRow w.heap.size 70 1 v3 (toF (clsP g.length (adG g))).length ((toF (clsP g.length (adG g))).map encF)) := Lib.hid (by rw [toF_enc fun l hl => mask_nat_lt16 (hin.out l hl).2, show (toF (clsP g.length (adG g))).length = (clsP g.length (adG g)).length by simp [toF]]; exact ho3); clear ho3 hg3)
    | (go_at_call 106; refine (all_any _ _ _ (by omega) _).mono ?_; rintro e w2 ⟨he2, hw2⟩; rw [← HM.out] at he2; subst he2; subst hw2))
  go_ret
  refine ⟨_, rfl, ?_, HB3.out.grown hg4 HB3.out.size (fun k hk => (HO3.out.lt k hk).1)⟩
  have h4 := HO4.out
  rw [toF_sort hin.out (clsP_sorted _ _), toF_enc fun l hl => mask_nat_lt16 (hin.out l hl).2, show (toF (clsP g.length (adG g))).length = (clsP g.length (adG g)).length by simp [toF]] at h4
  exact h4

end Go.Proofs.YtkppbmfliejnmaaDoor

/- Walks: the program's tests of a set, and of a connected one; the masks of several sets. -/
namespace Go.Proofs.YtkppbmfliejnmaaDoor
open Go.RowKit

set_option maxRecDepth 100000 in
set_option maxHeartbeats 1000000 in
theorem implSetOk_any (v lv : Value) (g : List (List Int)) (s : List Int) (hgl : g.length ≤ 1000000000) (w : World) (hg : Gr w v g) (hn : Nums w 2 .i64 lv s) :
    Calls Tryd.prog 95 #[v, lv] w fun e w' => e = .returned (.bool (dec (GOk g ∧ SetIn g.length s))) ∧ Below w.heap.size w w' := by
  have hg0 := hg
  obtain ⟨u, rfl, hr⟩ := hg
  obtain ⟨p, c, rfl, _⟩ := hr.shape
  have hbA := Lib.hid (below_alloc w (.cells #[.slice p g.length c] 29))
  have HG := Lib.hid (hg0.below hbA.out)
  have HN := Lib.hid (hn.below hbA.out)
  have BX := Lib.hid (Box.new w (.slice p g.length c) 29)
  clear hr hg0 hn
  by_cases hok : GOk g
  · have hd := Lib.hid (dec_true hok)
    have HD : Hid (dec (SetIn g.length s) = dec (GOk g ∧ SetIn g.length s)) := Lib.hid (dec_congr ⟨fun h => ⟨hok, h⟩, fun h => h.2⟩)
    clear hok
    go_enter Tryd.func95, Tryd.ntmps95
    go_wp2_with (first
      | (go_at_call 87; refine (implGraphOk_any _ g _ HG.out).mono ?_; rintro e w2 ⟨he, hb2⟩; rw [hd.out] at he; subst he; have hbx := (BX.out.keep hb2).cell)
      | (go_at_call 177; refine (increasing_any _ s g.length (by omega) (by omega) _ (HN.out.below hb2)).mono ?_; rintro e w3 ⟨he3, hw3⟩; rw [HD.out] at he3; subst he3; subst hw3))
    go_ret
    exact ⟨rfl, hbA.out.trans (hb2.mono hbA.out.size)⟩
  · have hd := Lib.hid (dec_false hok)
    have HD := Lib.hid (dec_false (show ¬ (GOk g ∧ SetIn g.length s) from fun h => hok h.1))
    clear hok
    go_enter Tryd.func95, Tryd.ntmps95
    go_wp2_with (go_at_call 87; refine (implGraphOk_any _ g _ HG.out).mono ?_; rintro e w2 ⟨he, hb2⟩; rw [hd.out] at he; subst he)
    go_ret
    exact ⟨by rw [HD.out]; rfl, hbA.out.trans (hb2.mono hbA.out.size)⟩

set_option maxRecDepth 100000 in
set_option maxHeartbeats 1000000 in
theorem connected_any (x : Value) (z : Int) (n : Nat) (E : Nat → Nat → Bool) (W : Nat) (hz : z = W) (hW : W < 65536) (hWn : ∀ i, W.testBit i = true → i < n) (w : World) (hx : NE w x n E) (hT : Tab w) :
    Calls Tryd.prog 176 #[x, .int .u32 z] w fun e w' => e = .returned (.bool (dec (ConnL E (bitsOf W)))) ∧ Below w.heap.size w w' := by
  subst hz
  by_cases h0 : W = 0
  · subst h0
    have HD := Lib.hid (dec_false (show ¬ ConnL E (bitsOf 0) by rw [bitsOf_zero]; exact not_connL_nil E))
    go_enter Tryd.func176, Tryd.ntmps176
    go_wp2
    go_ret
    exact ⟨by rw [HD.out]; rfl, Below.refl _ _⟩
  · have h0' : ((W : Int) != 0) = true := by simp; omega
    have hst := bitsOf_step W h0 (by omega)
    obtain ⟨hub, _, _⟩ := testBit_ctz W h0 (by omega)
    obtain ⟨u, hu⟩ : ∃ u, u = Lib.ctz 32 W := ⟨_, rfl⟩
    rw [← hu] at hst hub
    have HU := Lib.hid hu
    have HUB := Lib.hid hub
    have H0 := Lib.hid h0
    have HX := Lib.hid hx
    have HT := Lib.hid hT
    have HWN := Lib.hid hWn
    have HEQ : Hid (∀ m : Nat, m < 65536 → (∀ i, m.testBit i = true ↔ i ∈ partL E (bitsOf W) u) → ((m : Int) == (W : Int)) = dec (ConnL E (bitsOf W))) := Lib.hid (fun m hm hmb => by
      have hi : ConnL E (bitsOf W) ↔ m = W := by
        rw [hst, connL_part, ← hst]
        constructor
        · intro e
          refine Nat.eq_of_testBit_eq fun i => ?_
          rw [Bool.eq_iff_iff, hmb i, e, mem_left hW]
        · rintro rfl
          refine rising_ext _ _ (partL_rising (bitsOf_rising _) u) (bitsOf_rising _) fun i => ?_
          rw [← hmb i, mem_left hW]
      by_cases e : m = W
      · rw [dec_true (hi.2 e), e]; simp
      · rw [dec_false (fun k => e (hi.1 k))]
        simp
        omega)
    clear hu hub h0 hst hx hT hWn
    go_enter Tryd.func176, Tryd.ntmps176
    go_wp2_with (first
      | (go_at_call 219; refine (reach_any _ _ _ n E u W rfl rfl hW HWN.out HUB.out _ HX.out HT.out).mono ?_; rintro e w4 ⟨m, rfl, hm16, hmb, hb4⟩; have hme := HEQ.out m hm16 hmb; clear hmb)
      | (go_at_call 185; refine (least_any _ W rfl H0.out (by omega) _ HT.out).mono ?_; rintro e w3 ⟨he3, rfl⟩; rw [← HU.out] at he3; subst he3))
    go_ret
    exact ⟨ret_bool (by first | exact hme | rfl | (rw [hme])), hb4⟩

/-- A connected set of a right graph. -/
def ConnS (g : List (List Int)) (s : List Int) : Prop := (GOk g ∧ SetIn g.length s) ∧ ConnL (ofG g) (s.map Int.toNat)
theorem setIn_nats {n : Nat} {s : List Int} (h : SetIn n s) : natInts (s.map Int.toNat) = s ∧ (s.map Int.toNat).Pairwise (· < ·) ∧ ∀ x ∈ s.map Int.toNat, x < n := by
  refine ⟨?_, ?_, ?_⟩
  · unfold natInts
    rw [List.map_map]
    conv => rhs; rw [← List.map_id s]
    exact List.map_congr_left fun x hx => Int.toNat_of_nonneg (h.1 x hx).1
  · refine List.pairwise_map.2 (h.2.imp_of_mem fun {a b} ha hb k => ?_)
    have := (h.1 a ha).1
    have := (h.1 b hb).1
    omega
  · intro x hx
    obtain ⟨y, hy, rfl⟩ := List.mem_map.1 hx
    have := h.1 y hy
    omega
theorem bits_maskS {n : Nat} {s : List Int} (hn : n ≤ 16) (h : SetIn n s) : bitsOf (mask s) = s.map Int.toNat := by
  obtain ⟨h1, h2, h3⟩ := setIn_nats h
  conv => lhs; rw [← h1]
  exact bitsOf_maskN h2 fun x hx => by have := h3 x hx; omega



end Go.Proofs.YtkppbmfliejnmaaDoor
