/- Walks: slices.SortFunc over a row of sets of eight, under an order that parts any two. -/
import Derived.Test.YtkppbmfliejnmaaDoorSmQ27
import Derived.Test.YtkppbmfliejnmaaDoorSmQ3
import Derived.Test.YtkppbmfliejnmaaDoorSmQ13
import Derived.Test.YtkppbmfliejnmaaDoorSmQ7
import Derived.Test.YtkppbmfliejnmaaDoorSmQ26
import Derived.Test.YtkppbmfliejnmaaDoorSmQ28
import Derived.Test.YtkppbmfliejnmaaDoorSmQ4
import Derived.Test.YtkppbmfliejnmaaDoorSmQ20
import Derived.Test.YtkppbmfliejnmaaDoorSmQ11
namespace Go.Proofs.YtkppbmfliejnmaaDoor
open Go.Shelf Go.RowKit Go.Lib Go.Sort

/-- A set of eight as a value. -/
def encG (x : Fin 256) : Value := .int .u32 (x.val : Int)
theorem holds_of_block_g {w : World} {g : Nat} {cur : Array Value} {e : TypeId} {l : List (Fin 256)} (hb : w.heap[g]? = some (.cells cur e (0, 0))) (ht : cur.toList.take l.length = l.map encG) : Holds encG w g 0 l.toArray := by
  intro j hj
  have hj' : j < l.length := by simpa using hj
  refine ⟨?_, by simp [World.frozen?, hb]⟩
  have h1 : (cur.toList.take l.length)[j]? = (l.map encG)[j]? := by rw [ht]
  rw [List.getElem?_take_of_lt hj'] at h1
  simp only [World.cell?, hb, Nat.zero_add]
  simp only [Option.isSome_none, Bool.false_eq_true, if_false]
  rw [← Array.getElem?_toList, h1]
  simp [hj']
theorem heap_sorted_g {w : World} {g n : Nat} {os : Array Obj} {cur : Array Value} {e : TypeId} {fr : Nat × Nat} (d : Array (Fin 256)) (hb : w.heap[g]? = some (.cells cur e fr)) :
    (sortWorld encG w g 0 n d os).heap[g]? = some (.cells (putCells encG 0 d cur) e fr) := by
  have hg : g < w.heap.size := (Array.getElem?_eq_some_iff.1 hb).1
  unfold sortWorld
  rw [heap_grow_old _ _ (by simpa using hg)]
  simp [putRow, mapBlock, Sort.ahead, Array.getElem?_modify, hb, onCells]
theorem grownBy_sorted_g {w : World} {g n : Nat} {os : Array Obj} (d : Array (Fin 256)) : w.grownBy (sortWorld encG w g 0 n d os) (some g) := by
  unfold sortWorld
  refine ⟨rfl, rfl, rfl, by simp, fun k hk hne => ?_⟩
  rw [heap_grow_old _ _ (by simpa using hk)]
  have : g ≠ k := fun e => hne (by rw [e])
  simp [putRow, mapBlock, Sort.ahead, Array.getElem?_modify, this]
theorem take_putCells_g (cur : Array Value) (ts : List (Fin 256)) (h : ts.length ≤ cur.size) : (putCells encG 0 ts.toArray cur).toList.take ts.length = ts.map encG := by
  apply List.ext_getElem?
  intro j
  by_cases hj : j < ts.length
  · rw [List.getElem?_take_of_lt hj, Array.getElem?_toList]
    simp [putCells, hj, show j < cur.size by omega]
  · rw [List.getElem?_take_eq_none (by omega), List.getElem?_eq_none (by simp; omega)]
theorem ownsRow_sorted_g {w : World} {base g cap n : Nat} {e : TypeId} {os : Array Obj} {cur : Array Value} {ss ts : List (Fin 256)} (hl : ts.length = ss.length) (hbase : base ≤ g) (hb : w.heap[g]? = some (.cells cur e (0, 0)))
    (h1 : ss.length ≤ cap) (h2 : cap ≤ maxLen) (h3 : cur.size = cap * 1) :
    (sortWorld encG w g 0 n ts.toArray os).ownsRow base e 1 (.slice (some ⟨g, 0, none⟩) ss.length cap) ss.length (ts.map encG) :=
  ⟨by simp [hl], .inr ⟨g, cap, _, rfl, hbase, heap_sorted_g _ hb, h1, h2, by simp [putCells, h3], by rw [Nat.mul_one, ← hl]; exact take_putCells_g cur ts (by omega)⟩⟩

/-- What is asked of a comparison. -/
def CmpOkG (f : FuncId) (cf : Fin 256 → Fin 256 → Int) : Prop :=
  ∀ (x y : Fin 256) (W : World), Tab W → Calls Tryd.prog f #[encG x, encG y] W fun e w' => e = .returned (.int .i64 (cf x y)) ∧ Below W.heap.size W w' ∧ W.drawn ≤ w'.drawn
theorem CmpOkG.lays {f : FuncId} {cf : Fin 256 → Fin 256 → Int} (h : CmpOkG f cf) {blk size : Nat} {w : World} (hT : Tab w) (hne : 0 ≠ blk) : CmpLays1 Tryd.prog f #[] encG cf blk 0 size w := fun m os dk _ x y => by
  have hTW : Tab (sortWorld encG w blk 0 m dk os) := fun j hj => by
    unfold sortWorld
    have hl := World.block_lt_of_cell? w _ (hT j hj)
    rw [cell?_grow _ _ _ (by simpa using hl), cell?_putRow_other _ _ _ _ _ _ (.inl hne)]
    exact hT j hj
  refine (h x y _ hTW).mono fun e w' ⟨h1, h2, h3⟩ => ⟨h1, grow_of_below h2 h3⟩

set_option maxRecDepth 100000 in
theorem sortG_any (f : FuncId) (eg : ∀ args w, (callFunc f args).run Tryd.prog w = .ok (.enter f args) w) (cf : Fin 256 → Fin 256 → Int) (hO : SWO (ltOf cf)) (hT : ∀ x y, (ltOf cf) x y = false → (ltOf cf) y x = false → x = y) (hC : CmpOkG f cf)
    (v : Value) (l : List (Fin 256)) (base : Nat) (w : World) (hown : w.ownsRow base 70 1 v l.length (l.map encG)) (hTab : Tab w) (hb : 0 < base) (hl : l.length ≤ 1000000000) :
    Calls Tryd.prog 111 #[v, .func (.func f) #[] #[]] w fun e w' => e = .returned (.tuple #[]) ∧ w'.ownsRow base 70 1 v l.length ((l.mergeSort fun x y => !(ltOf cf) y x).map encG) ∧ w.grownBy w' v.ownBlock := by
  rcases id hown.2 with ⟨rfl, hz0⟩ | ⟨gb, cap, cur, rfl, hbase, hgb, r1, r2, r3, r4⟩
  · obtain rfl := List.eq_nil_of_length_eq_zero hz0
    have hc := AnyF.slices_SortFunc_none (P := Tryd.prog) (ρ := sortF_ren) { sortF with } none 0 (.func (.func f) #[] #[]) w
    refine Calls.mono hc ?_
    rintro e w3 ⟨rfl, rfl⟩
    exact ⟨rfl, by simpa using hown, World.grownBy.refl _ _⟩
  · have hH : Holds encG w gb 0 l.toArray := holds_of_block_g hgb (by simpa using r4)
    have hgl : gb < w.heap.size := (Array.getElem?_eq_some_iff.1 hgb).1
    have hc := Any.slices_SortFunc_total sortF encG (fun _ => rfl) cf hO f #[] gb 0 cap l.toArray w eg (hC.lays hTab (by omega)) hH hgl (by simp; omega) hT
    have hs : l.toArray.size = l.length := by simp
    rw [hs] at hc
    refine hc.mono ?_
    rintro e w3 ⟨rfl, nn, os, rfl⟩
    exact ⟨rfl, ownsRow_sorted_g (by simp) hbase hgb r1 r2 r3, grownBy_sorted_g _⟩

end Go.Proofs.YtkppbmfliejnmaaDoor

/- Plain: the least set that is not pruned away. -/
namespace Go.Proofs.YtkppbmfliejnmaaDoor

/-- A set that is not pruned away whole. -/
def StuckN (g : List (List Int)) (s : Nat) : Prop := ∃ ps L, Prunes g (natInts (bitsOf s)) ps L ∧ L ≠ []
theorem stuck_iff {g : List (List Int)} {s : Nat} {ps : List Pr} {L : List Int} (h : Prunes g (natInts (bitsOf s)) ps L) : StuckN g s ↔ L ≠ [] :=
  ⟨fun ⟨qs, M, h1, h2⟩ => by rw [(prunes_det h h1).2]; exact h2, fun h1 => ⟨ps, L, h, h1⟩⟩
theorem stuck_zero (g : List (List Int)) : ¬ StuckN g 0 := by
  have h : Prunes g (natInts (bitsOf 0)) [] [] := by
    rw [bitsOf_zero]
    exact .done [] fun j hj => by simp at hj
  rw [stuck_iff h]
  simp
def ObB (g : List (List Int)) : Prop := (GOk g ∧ g.length ≤ 8) ∧ ∃ s, s < 2 ^ g.length ∧ StuckN g s
/-- What ObstacleOf returns. -/
def ObS (g : List (List Int)) (ys : List Int) : Prop := (ObB g ∧ ∃ s, LeastP (StuckN g) g.length s ∧ ys = natInts (bitsOf s)) ∨ (¬ ObB g ∧ ys = [])
theorem obS_det {g : List (List Int)} {ys zs : List Int} (h : ObS g ys) (k : ObS g zs) : ys = zs := by
  rcases h with ⟨hb, s, h, rfl⟩ | ⟨hb, rfl⟩ <;> rcases k with ⟨kb, t, k, rfl⟩ | ⟨kb, rfl⟩
  · rw [leastP_det hb.1.1.le h k]
  · exact absurd hb kb
  · exact absurd kb hb
  · rfl
theorem obS_none {g : List (List Int)} (hn : ∀ t, t < 2 ^ g.length → ¬ StuckN g t) : ¬ ObB g ∧ ObS g [] := by
  have h : ¬ ObB g := fun ⟨_, t, h1, h2⟩ => hn t h1 h2
  exact ⟨h, .inr ⟨h, rfl⟩⟩
theorem obS_out {g : List (List Int)} (hn : ¬ (GOk g ∧ g.length ≤ 8)) : ¬ ObB g ∧ ObS g [] := by
  have h : ¬ ObB g := fun ⟨h1, _⟩ => hn h1
  exact ⟨h, .inr ⟨h, rfl⟩⟩
theorem obS_some {g : List (List Int)} {s : Nat} (h1 : GOk g) (h2 : g.length ≤ 8) (h : LeastP (StuckN g) g.length s) : ObB g ∧ ObS g (natInts (bitsOf s)) ∧ (natInts (bitsOf s)).length ≤ 16 := by
  have hb : ObB g := ⟨⟨h1, h2⟩, s, h.1, h.2.1⟩
  refine ⟨hb, .inl ⟨hb, s, h, rfl⟩, ?_⟩
  obtain ⟨hc, _⟩ := cand_bits h1.le h.1
  rw [natInts_length]
  by_cases he : bitsOf s = []
  · rw [he]; simp
  · have := rising_room hc.ris hc.inn he
    omega

end Go.Proofs.YtkppbmfliejnmaaDoor

/- Walk: the program says whether a vertex may be pruned as a twin. -/
namespace Go.Proofs.YtkppbmfliejnmaaDoor
open Go.RowKit

end Go.Proofs.YtkppbmfliejnmaaDoor

/- Walks: the program prunes. -/
namespace Go.Proofs.YtkppbmfliejnmaaDoor
open Go.RowKit

theorem goP_range {g : List (List Int)} {s : Nat} (h : LOk g s) {v b k : Int} (hg : GoP g (natInts (bitsOf s)) v b k) : -1 ≤ b ∧ b < g.length := by
  rcases hg with ⟨_, h1, _⟩ | ⟨h1, _⟩
  · omega
  · obtain ⟨i, rfl, hi⟩ := (mem_bitsZ h.s16).1 h1
    have := h.inn i hi
    omega

end Go.Proofs.YtkppbmfliejnmaaDoor

/- Walks: the program prunes again and again; PrunedOf. -/
namespace Go.Proofs.YtkppbmfliejnmaaDoor
open Go.RowKit

theorem natInts_get {l : List Nat} {j : Nat} (h : j < (natInts l).length) : (natInts l)[j] = ((l[j]'(by rwa [natInts_length] at h) : Nat) : Int) := by simp [natInts]
theorem bits_sub_ltP {left v : Nat} (h : left < 65536) (hv : left.testBit v = true) (h16 : v < 16) : (bitsOf (sub left (2 ^ v))).length < (bitsOf left).length := by
  have h1 := list_sub h h16
  have h2 : ((v : Nat) : Int) ∈ natInts (bitsOf left) := mem_natInts.2 ⟨v, (mem_left h).2 hv, rfl⟩
  have h3 := lessL_length_lt h2
  rw [h1, natInts_length, natInts_length] at h3
  exact h3

theorem Sl.shapeP {w : World} {E : TypeId} {v : Value} {n : Nat} {vals : List Value} (h : Sl w E v n vals) : ∃ p c, v = .slice p n c := by
  obtain ⟨p, c, e, _⟩ := h
  exact ⟨p, c, e⟩

theorem lOk_start {g : List (List Int)} (h : GOk g) {M : Nat} (hM : M = 2 ^ g.length - 1) : LOk g M := by
  have hle := h.le
  subst hM
  refine ⟨h, ?_, fun i hi => ?_⟩
  · have : 2 ^ g.length ≤ 2 ^ 16 := Nat.pow_le_pow_right (by decide) hle
    have h2 : (2 : Nat) ^ 16 = 65536 := by decide
    have : 0 < 2 ^ g.length := Nat.pow_pos (by decide)
    omega
  · rw [testBit_firstOf] at hi
    simpa using hi


end Go.Proofs.YtkppbmfliejnmaaDoor

/- Walks: the sets of so many, tried in their order (the program's chooseSets and its closures). -/
namespace Go.Proofs.YtkppbmfliejnmaaDoor
open Go.RowKit

theorem lOk_of_lt {g : List (List Int)} (h : GOk g) {s : Nat} (hs : s < 2 ^ g.length) : LOk g s where
  ok := h
  s16 := (cand_bits h.le hs).2
  inn := fun i hi => ((cand_bits h.le hs).1.inn i ((mem_bitsOf' (by have := (cand_bits h.le hs).2; omega)).2 hi)).2
theorem bits_len16 {g : List (List Int)} (h : GOk g) {s : Nat} (hs : s < 2 ^ g.length) : (bitsOf s).length ≤ 16 := by
  have hc := (cand_bits h.le hs).1
  have := h.le
  by_cases he : bitsOf s = []
  · rw [he]; simp
  · have := rising_room hc.ris hc.inn he
    omega

theorem bits_nil0 {l : Nat} (h : l < 65536) (e : ¬ natInts (bitsOf l) ≠ []) : l = 0 := by
  have e1 : natInts (bitsOf l) = [] := Decidable.byContradiction e
  have e2 : bitsOf l = [] := by simpa [natInts] using e1
  rw [← mask_bitsOf h, e2]
  rfl

/-- What stands below the call. -/
structure ObBase (w : World) (g : List (List Int)) (xp : Option Addr) (xc ba : Nat) : Prop where
  ok : GOk g
  h8 : g.length ≤ 8
  box : Box w ba 73 (.slice xp g.length xc)
  sl : Sl w 70 (.slice xp g.length xc) g.length ((netL g).map u32v)
  tab : Tab w
theorem ObBase.next {w w' : World} {g : List (List Int)} {xp : Option Addr} {xc ba : Nat} (h : ObBase w g xp xc ba) (hb : Below w.heap.size w w') : ObBase w' g xp xc ba :=
  ⟨h.ok, h.h8, h.box.keep hb, h.sl.below hb, h.tab.keep hb⟩

end Go.Proofs.YtkppbmfliejnmaaDoor

/- Walks: chooseSets. -/
namespace Go.Proofs.YtkppbmfliejnmaaDoor
open Go.RowKit

theorem ch_yes_no {P : Nat → Prop} {n lo many chosen : Nat} (h : ChNo P n lo many chosen) : ¬ ∃ s, ChYes P n lo many chosen s := by
  rintro ⟨s, T, h1, h2, h3, _⟩
  exact h T h1 (h2 ▸ h3)
theorem or_one {c v n : Nat} (hc : c < 2 ^ n) (hv : v < n) : c ||| 2 ^ v < 2 ^ n := Nat.or_lt_two_pow hc (Nat.pow_lt_pow_right (by decide) hv)

end Go.Proofs.YtkppbmfliejnmaaDoor

/- Walks: smallestSet; the program's ObstacleOf. -/
namespace Go.Proofs.YtkppbmfliejnmaaDoor
open Go.RowKit

end Go.Proofs.YtkppbmfliejnmaaDoor

/- Walks: modulesOf, ModulesOf of the program. -/
namespace Go.Proofs.YtkppbmfliejnmaaDoor
open Go.RowKit Go.Sort

theorem tyM_vsets : SlTy Tryd.prog 72 70 (.int .u32 0) 1 4 := ⟨Tryd.underlying72, by kernel_rfl, rfl, by decide, by decide⟩
noncomputable def cmpG (x y : Fin 256) : Int := cmpS (bitsOf x.val) (bitsOf y.val)
theorem ltG {x y : Fin 256} : ltOf cmpG x y = true ↔ lessP (bitsOf x.val) (bitsOf y.val) := by
  unfold ltOf cmpG
  rw [decide_eq_true_iff, cmpS_lt]
theorem ltG_no {x y : Fin 256} : ltOf cmpG x y = false ↔ ¬ lessP (bitsOf x.val) (bitsOf y.val) := by
  rw [← ltG]
  simp
theorem swoG : SWO (ltOf cmpG) where
  irrefl x := ltG_no.2 (lessP_irrefl _)
  trans x y z h1 h2 := ltG.2 (lessP_trans (ltG.1 h1) (ltG.1 h2))
  ntrans x y z h1 h2 := by
    rw [ltG_no] at *
    intro h
    by_cases hyx : lessP (bitsOf y.val) (bitsOf x.val)
    · exact h2 (lessP_trans hyx h)
    · rw [lessP_tri h1 hyx] at h
      exact h2 h
theorem totG (x y : Fin 256) (h1 : ltOf cmpG x y = false) (h2 : ltOf cmpG y x = false) : x = y := by
  have e := lessP_tri (ltG_no.1 h1) (ltG_no.1 h2)
  have := congrArg (fun l => mask (natInts l)) e
  simp only [mask_bitsOf (show x.val < 65536 by have := x.isLt; omega), mask_bitsOf (show y.val < 65536 by have := y.isLt; omega)] at this
  exact Fin.ext this
theorem cmpOkGS : CmpOkG 112 cmpG := fun x y W hT => bySize_any x.val y.val x.isLt y.isLt W hT

/-- The sets, sorted, as lists. -/
noncomputable def srtG (l : List (Fin 256)) : List (List Nat) := (l.mergeSort fun x y => !ltOf cmpG y x).map fun x => bitsOf x.val
theorem srtG_on {P : Nat → Prop} {k : Nat} (hk : k ≤ 256) {l : List (Fin 256)} (hnd : l.Nodup) (hm : ∀ x : Fin 256, x ∈ l ↔ 1 ≤ x.val ∧ x.val < k ∧ P x.val) : MdOn P k (srtG l) := by
  have hp : (l.mergeSort fun x y => !ltOf cmpG y x).Perm l := List.mergeSort_perm _ _
  have hinj : ∀ x y : Fin 256, bitsOf x.val = bitsOf y.val → x = y := fun x y e => by
    have := congrArg (fun l => mask (natInts l)) e
    simp only [mask_bitsOf (show x.val < 65536 by have := x.isLt; omega), mask_bitsOf (show y.val < 65536 by have := y.isLt; omega)] at this
    exact Fin.ext this
  have hsort : (l.mergeSort fun x y => !ltOf cmpG y x).Pairwise fun x y => (!ltOf cmpG y x) = true := List.pairwise_mergeSort (fun x y z h1 h2 => by
      simp only [Bool.not_eq_true'] at *
      exact swoG.ntrans z y x h2 h1) (fun x y => by
      by_cases h : ltOf cmpG x y = true
      · have : ltOf cmpG y x = false := ltG_no.2 fun k => lessP_irrefl _ (lessP_trans (ltG.1 h) k)
        simp [this]
      · simp [h]) l
  refine mdOn_sorted (by omega) ?_ ?_ fun x => ?_
  · unfold srtG
    have : (l.mergeSort fun x y => !ltOf cmpG y x).Nodup := hp.symm.nodup hnd
    unfold List.Nodup at *
    rw [List.pairwise_map]
    exact this.imp fun h e => h (hinj _ _ e)
  · unfold srtG
    rw [List.pairwise_map]
    exact hsort.imp fun h => ltG_no.1 (by simpa using h)
  · unfold srtG
    rw [List.mem_map]
    constructor
    · rintro ⟨y, hy, rfl⟩
      obtain ⟨a, b, c⟩ := (hm y).1 (hp.mem_iff.1 hy)
      exact ⟨y.val, a, b, c, rfl⟩
    · rintro ⟨s, a, b, c, rfl⟩
      exact ⟨⟨s, by omega⟩, hp.mem_iff.2 ((hm _).2 ⟨a, b, c⟩), rfl⟩

end Go.Proofs.YtkppbmfliejnmaaDoor

/- Walks: LastingStables of the program. -/
namespace Go.Proofs.YtkppbmfliejnmaaDoor
open Go.RowKit Go.Sort

def toGs (L : List (List Nat)) : List (Fin 256) := L.map fun l => ⟨mask (natInts l) % 256, Nat.mod_lt _ (by decide)⟩
theorem mask_lt8 {l : List Nat} (h : ∀ y ∈ l, y < 8) : mask (natInts l) < 256 := by
  refine Nat.lt_pow_two_of_testBit (n := 8) _ fun j hj => ?_
  rw [testBit_mask, List.any_eq_false]
  intro x hx
  simp only [natInts, List.mem_map] at hx
  obtain ⟨y, hy, rfl⟩ := hx
  have := h y hy
  simp
  omega
theorem toGs_enc {L : List (List Nat)} (h : ∀ l ∈ L, ∀ y ∈ l, y < 8) : (toGs L).map encG = mskV L := by
  unfold toGs mskV mskC
  rw [List.map_map, List.map_map]
  refine List.map_congr_left fun l hl => ?_
  simp only [Function.comp, encG, u32v, Nat.mod_eq_of_lt (mask_lt8 (h l hl))]
theorem toGs_bits {L : List (List Nat)} (h : ∀ l ∈ L, l.Pairwise (· < ·) ∧ ∀ y ∈ l, y < 8) : ((toGs L).map fun x => bitsOf x.val) = L := by
  unfold toGs
  rw [List.map_map]
  conv => rhs; rw [← List.map_id L]
  refine List.map_congr_left fun l hl => ?_
  have h1 := h l hl
  simp only [Function.comp, Nat.mod_eq_of_lt (mask_lt8 h1.2), id]
  exact bitsOf_maskN h1.1 fun y hy => by have := h1.2 y hy; omega
theorem netL_comp {g : List (List Int)} (hok : GOk g) : netL (matG g.length (compE (ofG g))) = indN g.length (compE (ofG g)) := by
  have hH : GOk (matG g.length (compE (ofG g))) := gok_matG hok.pos hok.le (comp_sym (ofG_sym hok)) (comp_irr _)
  rw [← indN_ofG hH, matG_length]
  exact indN_congr fun r j hr hj => ofG_matG hr hj

set_option maxRecDepth 100000 in
set_option maxHeartbeats 4000000 in
theorem implLastingStables_any (v : Value) (g : List (List Int)) (w : World) (hg : Gr w v g) (hok : GOk g) (h8 : g.length ≤ 8) (hT : Tab w) :
    Calls Tryd.prog 32 #[v] w fun e w' => ∃ (u : Value) (L : List (List Nat)), e = .returned u ∧ L.Perm (clsP g.length (ofG (matG g.length (compE (ofG g))))) ∧ DG w' w.heap.size (.agg #[u]) (L.map natInts) ∧ Below w.heap.size w w' := by
  have hg0 := hg
  obtain ⟨u, rfl, hr⟩ := hg
  obtain ⟨p, c, rfl, _⟩ := hr.shape
  obtain ⟨W0, hW0⟩ : ∃ W0, W0 = w.alloc (.cells #[.slice p g.length c] 29) := ⟨_, rfl⟩
  have hb0 : Below w.heap.size w W0 := by rw [hW0]; exact below_alloc _ _
  have HB0 := Lib.hid hb0
  have HBG : Hid (Box W0 w.heap.size 29 (.slice p g.length c)) := Lib.hid (by rw [hW0]; exact Box.new _ _ _)
  have HG := Lib.hid (hg0.below hb0)
  have HT := Lib.hid (hT.keep hb0)
  have HTP := Lib.hid hT.pos
  have HOK := Lib.hid hok
  have HDT := Lib.hid (dec_true hok)
  have h16 := hok.le
  have c0 := HBG.out.cell
  obtain ⟨H, hH⟩ : ∃ H, H = matG g.length (compE (ofG g)) := ⟨_, rfl⟩
  have hHok : GOk H := by rw [hH]; exact gok_matG hok.pos hok.le (comp_sym (ofG_sym hok)) (comp_irr _)
  have hHl : H.length = g.length := by rw [hH, matG_length]
  have hHn : netL H = indN g.length (compE (ofG g)) := by rw [hH]; exact netL_comp hok
  rw [← hH]
  obtain ⟨L0, hL0⟩ : ∃ L0, L0 = clsP g.length (adG H) := ⟨_, rfl⟩
  have hL0m : ∀ l ∈ L0, l.Pairwise (· < ·) ∧ ∀ y ∈ l, y < 8 := fun l hl => by
    rw [hL0] at hl
    exact ⟨(clsP_mem hl).1, fun y hy => by have := (clsP_mem hl).2 y hy; omega⟩
  have hL0l : L0.length ≤ 65536 := by
    rw [hL0]
    exact Nat.le_trans (clsP_len _ _) (Nat.le_trans (Nat.pow_le_pow_right (by decide) h16) (by decide))
  have HL0 : Hid (L0 = clsP g.length (ofG H)) := Lib.hid hL0
  have CQ : Hid (∀ (wz : World) (q : Option Addr) (d base : Nat), wz.ownsRow base 70 1 (.slice q g.length d) g.length ((indN g.length (compE (ofG g))).map u32v) → Tab wz → Calls Tryd.prog 110 #[.slice q g.length d] wz fun e w' => ∃ v, e = .returned v ∧ w'.ownsRow wz.heap.size 70 1 v (toGs L0).length ((toGs L0).map encG) ∧ Below wz.heap.size wz w') := Lib.hid fun wz q d base ho ht => by
    have hc := cliquesOf_any H q d wz ⟨hHok, by rw [hHl, hHn]; exact Sl.of_owns ho (by omega), ht⟩
    rw [hHl, ← hL0] at hc
    rw [toGs_enc fun l hl => (hL0m l hl).2, show (toGs L0).length = L0.length by simp [toGs]]
    exact hc
  have HTG : Hid (((toGs L0).map fun x => bitsOf x.val) = L0) := Lib.hid (toGs_bits hL0m)
  have hTl : (toGs L0).length ≤ 65536 := by simpa [toGs] using hL0l
  obtain ⟨T, hTd⟩ : ∃ T, T = toGs L0 := ⟨_, rfl⟩
  rw [← hTd] at CQ HTG hTl
  obtain ⟨S, hS⟩ : ∃ S, S = T.mergeSort fun x y => !ltOf cmpG y x := ⟨_, rfl⟩
  have hSl : S.length = T.length := by rw [hS, List.length_mergeSort]
  have HS := Lib.hid hS
  have HSP : Hid (S.Perm T) := Lib.hid (by rw [hS]; exact List.mergeSort_perm _ _)
  have HSL := Lib.hid hSl
  have HTL := Lib.hid hTl
  have heg : Hid (∀ args w, (callFunc 112 args).run Tryd.prog w = .ok (.enter 112 args) w) := Lib.hid (enters_of Tryd.func112 (by kernel_rfl) rfl)
  have SRT : Hid (∀ (wz : World) (xv : Value) (base : Nat), wz.ownsRow base 70 1 xv T.length (T.map encG) → Tab wz → 0 < base → Calls Tryd.prog 111 #[xv, .func (.func 112) #[] #[]] wz fun e w' => e = .returned (.tuple #[]) ∧ w'.ownsRow base 70 1 xv T.length (S.map encG) ∧ wz.grownBy w' xv.ownBlock) := Lib.hid fun wz xv base h1 h2 h3 => by
    have := sortG_any 112 heg.out cmpG swoG totG cmpOkGS xv T base wz h1 h2 h3 (by omega)
    rw [hS]
    exact this
  have RES : Hid (∀ (wz : World) (xv : Value) (base : Nat), wz.ownsRow base 70 1 xv T.length (S.map encG) → Tab wz → Calls Tryd.prog 113 #[xv] wz fun e w' => ∃ u, e = .returned u ∧ DG w' wz.heap.size (.agg #[u]) ((S.map fun x => bitsOf x.val).map natInts) ∧ Below wz.heap.size wz w') := Lib.hid fun wz xv base h1 h2 => by
    have e1 : (S.map fun x => x.val).map u32v = S.map encG := by rw [List.map_map]; rfl
    have e2 : rowsOf (S.map fun x => x.val) = (S.map fun x => bitsOf x.val).map natInts := by unfold rowsOf; rw [List.map_map, List.map_map]; rfl
    have e3 : (S.map fun x => x.val).length = T.length := by rw [List.length_map, hSl]
    have := results_any xv (S.map fun x => x.val) (fun s hs => by obtain ⟨x, _, rfl⟩ := List.mem_map.1 hs; have := x.isLt; omega) (by rw [e3]; omega) wz (by rw [e1, e3]; exact Sl.of_owns h1 (by omega)) h2
    rw [e2] at this
    exact this
  have HPERM : Hid ((S.map fun x => bitsOf x.val).Perm (clsP g.length (ofG H))) := Lib.hid (by
    have := HSP.out.map fun x => bitsOf x.val
    rw [HTG.out, HL0.out] at this
    exact this)
  obtain ⟨LL, hLL⟩ : ∃ LL, LL = S.map fun x => bitsOf x.val := ⟨_, rfl⟩
  rw [← hLL] at RES HPERM
  clear hr hg0 hb0 hok hT hH hHok hHl hHn hL0 hL0m hL0l hTd hS hSl hLL HL0 HTG HSP HS
  go_enter Tryd.func32, Tryd.ntmps32
  go_upto_region 1 with fail
  rw [← hW0]
  clear hW0
  go_wp2_with (first
    | (go_at_call 113; refine (RES.out _ _ _ HO6.out (HT.out.keep HB6.out)).mono ?_; rintro e w7 ⟨rv, rfl, hd7, hb7⟩; have HD7 := Lib.hid hd7; have HB7 := Lib.hid (HB6.out.trans (hb7.mono HB6.out.size)); have HZ7 := Lib.hid HB6.out.size; clear hd7 hb7)
    | (go_at_call 111; refine (SRT.out _ _ _ HO5.out (HT.out.keep HB5.out) HPZ.out).mono ?_; rintro e w6 ⟨rfl, ho6, hg6⟩; have HO6 := Lib.hid ho6; have HB6 := Lib.hid (below_grown HB5.out HO5.out hg6 HZ5.out HB5.out.size); clear ho6 hg6)
    | (go_at_call 110; refine (CQ.out _ _ _ _ HO4.out (HT.out.keep HB4.out)).mono ?_; rintro e w5 ⟨cv, rfl, ho5, hb5⟩; have HO5 := Lib.hid ho5; have HB5 := Lib.hid (HB4.out.trans (hb5.mono HB4.out.size)); have HZ5 := Lib.hid HB4.out.size; have HPZ := Lib.hid (Nat.lt_of_lt_of_le HTP.out (Nat.le_trans HB0.out.size HB4.out.size)); clear ho5 hb5)
    | (go_at_call 94; refine (complement_any _ _ _ _ _ HNA.out).mono ?_; rintro e w4 ⟨y, rfl, ho4, hb4⟩; have HO4 := Lib.hid ho4; have HB4 := Lib.hid (HB3.out.trans (hb4.mono HB3.out.size)); obtain ⟨yp, yc, rfl, _⟩ := owns_capL ho4; clear ho4 hb4)
    | (go_at_call 89; refine (netsOf_any _ g _ (HG.out.below HB2.out) HOK.out).mono ?_; rintro e w3 ⟨x, rfl, ho, hb3⟩; have HNA := Lib.hid (neOfF HOK.out ho); obtain ⟨xp, xc, rfl, _⟩ := owns_capL ho; have HB3 := Lib.hid (HB2.out.trans (hb3.mono HB2.out.size)); clear ho hb3)
    | (go_at_call 87; refine (implGraphOk_any _ g _ HG.out).mono ?_; rintro e w2 ⟨he, hb2⟩; rw [HDT.out] at he; subst he; have HB2 := Lib.hid hb2; have c0 := hb2.at' c0; clear hb2))
  go_ret
  exact ⟨_, LL, rfl, HPERM.out, DG.base HD7.out (Nat.le_trans HB0.out.size HZ7.out), HB0.out.trans (HB7.out.mono HB0.out.size)⟩

end Go.Proofs.YtkppbmfliejnmaaDoor
