/- Walks: slices.SortFunc over a row of sets of eight, under an order that parts any two. -/
import Derived.Test.YtmakhapdlkbbnaaDoorMlQ33
import Derived.Test.YtmakhapdlkbbnaaDoorMlQ2
import Derived.Test.YtmakhapdlkbbnaaDoorMlQ11
import Derived.Test.YtmakhapdlkbbnaaDoorMlQ12
import Derived.Test.YtmakhapdlkbbnaaDoorMlQ19
import Derived.Test.YtmakhapdlkbbnaaDoorMlQ17
import Derived.Test.YtmakhapdlkbbnaaDoorMlQ6
import Derived.Test.YtmakhapdlkbbnaaDoorMlQ25
namespace Go.Proofs.YtmakhapdlkbbnaaDoor
open Go.Shelf Go.RowKit Go.Lib Go.Sort

/-- A set of eight as a value. -/
def encG (x : Fin 256) : Value := .int .u32 (x.val : Int)
theorem holds_of_block_g {w : World} {g : Nat} {cur : Array Value} {e : TypeId} {l : List (Fin 256)} (hb : w.heap[g]? = some (.cells cur e (0, 0))) (ht : cur.toList.take l.length = l.map encG) : Holds encG w g 0 l.toArray := by
  intro j hj
  have hj' : j < l.length := by simpa using hj
  refine ⟨?_, by simp [World.frozen?, hb]⟩
  have h1 : (cur.toList.take l.length)[j]? = (l.map encG)[j]? := by rw [ht]
  rw [List.getElem?_take_of_lt hj'] at h1
  simp only [World.cell?, hb, Nat.zero_add]
  simp only [Option.isSome_none, Bool.false_eq_true, if_false]
  rw [← Array.getElem?_toList, h1]
  simp [hj']
theorem heap_sorted_g {w : World} {g n : Nat} {os : Array Obj} {cur : Array Value} {e : TypeId} {fr : Nat × Nat} (d : Array (Fin 256)) (hb : w.heap[g]? = some (.cells cur e fr)) :
    (sortWorld encG w g 0 n d os).heap[g]? = some (.cells (putCells encG 0 d cur) e fr) := by
  have hg : g < w.heap.size := (Array.getElem?_eq_some_iff.1 hb).1
  unfold sortWorld
  rw [heap_grow_old _ _ (by simpa using hg)]
  simp [putRow, mapBlock, Sort.ahead, Array.getElem?_modify, hb, onCells]
theorem grownBy_sorted_g {w : World} {g n : Nat} {os : Array Obj} (d : Array (Fin 256)) : w.grownBy (sortWorld encG w g 0 n d os) (some g) := by
  unfold sortWorld
  refine ⟨rfl, rfl, rfl, by simp, fun k hk hne => ?_⟩
  rw [heap_grow_old _ _ (by simpa using hk)]
  have : g ≠ k := fun e => hne (by rw [e])
  simp [putRow, mapBlock, Sort.ahead, Array.getElem?_modify, this]
theorem take_putCells_g (cur : Array Value) (ts : List (Fin 256)) (h : ts.length ≤ cur.size) : (putCells encG 0 ts.toArray cur).toList.take ts.length = ts.map encG := by
  apply List.ext_getElem?
  intro j
  by_cases hj : j < ts.length
  · rw [List.getElem?_take_of_lt hj, Array.getElem?_toList]
    simp [putCells, hj, show j < cur.size by omega]
  · rw [List.getElem?_take_eq_none (by omega), List.getElem?_eq_none (by simp; omega)]
theorem ownsRow_sorted_g {w : World} {base g cap n : Nat} {e : TypeId} {os : Array Obj} {cur : Array Value} {ss ts : List (Fin 256)} (hl : ts.length = ss.length) (hbase : base ≤ g) (hb : w.heap[g]? = some (.cells cur e (0, 0)))
    (h1 : ss.length ≤ cap) (h2 : cap ≤ maxLen) (h3 : cur.size = cap * 1) :
    (sortWorld encG w g 0 n ts.toArray os).ownsRow base e 1 (.slice (some ⟨g, 0, none⟩) ss.length cap) ss.length (ts.map encG) :=
  ⟨by simp [hl], .inr ⟨g, cap, _, rfl, hbase, heap_sorted_g _ hb, h1, h2, by simp [putCells, h3], by rw [Nat.mul_one, ← hl]; exact take_putCells_g cur ts (by omega)⟩⟩

/-- What is asked of a comparison. -/
def CmpOkG (f : FuncId) (cf : Fin 256 → Fin 256 → Int) : Prop :=
  ∀ (x y : Fin 256) (W : World), Tab W → Calls Tryd.prog f #[encG x, encG y] W fun e w' => e = .returned (.int .i64 (cf x y)) ∧ Below W.heap.size W w' ∧ W.drawn ≤ w'.drawn
theorem CmpOkG.lays {f : FuncId} {cf : Fin 256 → Fin 256 → Int} (h : CmpOkG f cf) {blk size : Nat} {w : World} (hT : Tab w) (hne : 0 ≠ blk) : CmpLays1 Tryd.prog f #[] encG cf blk 0 size w := fun m os dk _ x y => by
  have hTW : Tab (sortWorld encG w blk 0 m dk os) := fun j hj => by
    unfold sortWorld
    have hl := World.block_lt_of_cell? w _ (hT j hj)
    rw [cell?_grow _ _ _ (by simpa using hl), cell?_putRow_other _ _ _ _ _ _ (.inl hne)]
    exact hT j hj
  refine (h x y _ hTW).mono fun e w' ⟨h1, h2, h3⟩ => ⟨h1, grow_of_below h2 h3⟩

set_option maxRecDepth 100000 in
theorem sortG_any (f : FuncId) (eg : ∀ args w, (callFunc f args).run Tryd.prog w = .ok (.enter f args) w) (cf : Fin 256 → Fin 256 → Int) (hO : SWO (ltOf cf)) (hT : ∀ x y, (ltOf cf) x y = false → (ltOf cf) y x = false → x = y) (hC : CmpOkG f cf)
    (v : Value) (l : List (Fin 256)) (base : Nat) (w : World) (hown : w.ownsRow base 79 1 v l.length (l.map encG)) (hTab : Tab w) (hb : 0 < base) (hl : l.length ≤ 1000000000) :
    Calls Tryd.prog 159 #[v, .func (.func f) #[] #[]] w fun e w' => e = .returned (.tuple #[]) ∧ w'.ownsRow base 79 1 v l.length ((l.mergeSort fun x y => !(ltOf cf) y x).map encG) ∧ w.grownBy w' v.ownBlock := by
  rcases id hown.2 with ⟨rfl, hz0⟩ | ⟨gb, cap, cur, rfl, hbase, hgb, r1, r2, r3, r4⟩
  · obtain rfl := List.eq_nil_of_length_eq_zero hz0
    have hc := AnyF.slices_SortFunc_none (P := Tryd.prog) (ρ := sortF_ren) { sortF with } none 0 (.func (.func f) #[] #[]) w
    refine Calls.mono hc ?_
    rintro e w3 ⟨rfl, rfl⟩
    exact ⟨rfl, by simpa using hown, World.grownBy.refl _ _⟩
  · have hH : Holds encG w gb 0 l.toArray := holds_of_block_g hgb (by simpa using r4)
    have hgl : gb < w.heap.size := (Array.getElem?_eq_some_iff.1 hgb).1
    have hc := Any.slices_SortFunc_total sortF encG (fun _ => rfl) cf hO f #[] gb 0 cap l.toArray w eg (hC.lays hTab (by omega)) hH hgl (by simp; omega) hT
    have hs : l.toArray.size = l.length := by simp
    rw [hs] at hc
    refine hc.mono ?_
    rintro e w3 ⟨rfl, nn, os, rfl⟩
    exact ⟨rfl, ownsRow_sorted_g (by simp) hbase hgb r1 r2 r3, grownBy_sorted_g _⟩

end Go.Proofs.YtmakhapdlkbbnaaDoor

/- Plain: the least set that is not pruned away. -/
namespace Go.Proofs.YtmakhapdlkbbnaaDoor

/-- A set that is not pruned away whole. -/
def StuckN (g : List (List Int)) (s : Nat) : Prop := ∃ ps L, Prunes g (natInts (bitsOf s)) ps L ∧ L ≠ []
theorem stuck_iff {g : List (List Int)} {s : Nat} {ps : List Pr} {L : List Int} (h : Prunes g (natInts (bitsOf s)) ps L) : StuckN g s ↔ L ≠ [] :=
  ⟨fun ⟨qs, M, h1, h2⟩ => by rw [(prunes_det h h1).2]; exact h2, fun h1 => ⟨ps, L, h, h1⟩⟩
theorem stuck_zero (g : List (List Int)) : ¬ StuckN g 0 := by
  have h : Prunes g (natInts (bitsOf 0)) [] [] := by
    rw [bitsOf_zero]
    exact .done [] fun j hj => by simp at hj
  rw [stuck_iff h]
  simp
def ObB (g : List (List Int)) : Prop := (GOk g ∧ g.length ≤ 8) ∧ ∃ s, s < 2 ^ g.length ∧ StuckN g s
/-- What ObstacleOf returns. -/
def ObS (g : List (List Int)) (ys : List Int) : Prop := (ObB g ∧ ∃ s, LeastP (StuckN g) g.length s ∧ ys = natInts (bitsOf s)) ∨ (¬ ObB g ∧ ys = [])
theorem obS_det {g : List (List Int)} {ys zs : List Int} (h : ObS g ys) (k : ObS g zs) : ys = zs := by
  rcases h with ⟨hb, s, h, rfl⟩ | ⟨hb, rfl⟩ <;> rcases k with ⟨kb, t, k, rfl⟩ | ⟨kb, rfl⟩
  · rw [leastP_det hb.1.1.le h k]
  · exact absurd hb kb
  · exact absurd kb hb
  · rfl
theorem obS_none {g : List (List Int)} (hn : ∀ t, t < 2 ^ g.length → ¬ StuckN g t) : ¬ ObB g ∧ ObS g [] := by
  have h : ¬ ObB g := fun ⟨_, t, h1, h2⟩ => hn t h1 h2
  exact ⟨h, .inr ⟨h, rfl⟩⟩
theorem obS_out {g : List (List Int)} (hn : ¬ (GOk g ∧ g.length ≤ 8)) : ¬ ObB g ∧ ObS g [] := by
  have h : ¬ ObB g := fun ⟨h1, _⟩ => hn h1
  exact ⟨h, .inr ⟨h, rfl⟩⟩
theorem obS_some {g : List (List Int)} {s : Nat} (h1 : GOk g) (h2 : g.length ≤ 8) (h : LeastP (StuckN g) g.length s) : ObB g ∧ ObS g (natInts (bitsOf s)) ∧ (natInts (bitsOf s)).length ≤ 16 := by
  have hb : ObB g := ⟨⟨h1, h2⟩, s, h.1, h.2.1⟩
  refine ⟨hb, .inl ⟨hb, s, h, rfl⟩, ?_⟩
  obtain ⟨hc, _⟩ := cand_bits h1.le h.1
  rw [natInts_length]
  by_cases he : bitsOf s = []
  · rw [he]; simp
  · have := rising_room hc.ris hc.inn he
    omega

end Go.Proofs.YtmakhapdlkbbnaaDoor

/- Walk: the program says whether a vertex may be pruned as a twin. -/
namespace Go.Proofs.YtmakhapdlkbbnaaDoor
open Go.RowKit

end Go.Proofs.YtmakhapdlkbbnaaDoor

/- Walks: the program prunes. -/
namespace Go.Proofs.YtmakhapdlkbbnaaDoor
open Go.RowKit

theorem goP_range {g : List (List Int)} {s : Nat} (h : LOk g s) {v b k : Int} (hg : GoP g (natInts (bitsOf s)) v b k) : -1 ≤ b ∧ b < g.length := by
  rcases hg with ⟨_, h1, _⟩ | ⟨h1, _⟩
  · omega
  · obtain ⟨i, rfl, hi⟩ := (mem_bitsZ h.s16).1 h1
    have := h.inn i hi
    omega

end Go.Proofs.YtmakhapdlkbbnaaDoor

/- Walks: the program prunes again and again; PrunedOf. -/
namespace Go.Proofs.YtmakhapdlkbbnaaDoor
open Go.RowKit

theorem natInts_get {l : List Nat} {j : Nat} (h : j < (natInts l).length) : (natInts l)[j] = ((l[j]'(by rwa [natInts_length] at h) : Nat) : Int) := by simp [natInts]
theorem bits_sub_ltP {left v : Nat} (h : left < 65536) (hv : left.testBit v = true) (h16 : v < 16) : (bitsOf (sub left (2 ^ v))).length < (bitsOf left).length := by
  have h1 := list_sub h h16
  have h2 : ((v : Nat) : Int) ∈ natInts (bitsOf left) := mem_natInts.2 ⟨v, (mem_left h).2 hv, rfl⟩
  have h3 := lessL_length_lt h2
  rw [h1, natInts_length, natInts_length] at h3
  exact h3

theorem Sl.shapeP {w : World} {E : TypeId} {v : Value} {n : Nat} {vals : List Value} (h : Sl w E v n vals) : ∃ p c, v = .slice p n c := by
  obtain ⟨p, c, e, _⟩ := h
  exact ⟨p, c, e⟩

theorem lOk_start {g : List (List Int)} (h : GOk g) {M : Nat} (hM : M = 2 ^ g.length - 1) : LOk g M := by
  have hle := h.le
  subst hM
  refine ⟨h, ?_, fun i hi => ?_⟩
  · have : 2 ^ g.length ≤ 2 ^ 16 := Nat.pow_le_pow_right (by decide) hle
    have h2 : (2 : Nat) ^ 16 = 65536 := by decide
    have : 0 < 2 ^ g.length := Nat.pow_pos (by decide)
    omega
  · rw [testBit_firstOf] at hi
    simpa using hi


end Go.Proofs.YtmakhapdlkbbnaaDoor

/- Walks: the sets of so many, tried in their order (the program's chooseSets and its closures). -/
namespace Go.Proofs.YtmakhapdlkbbnaaDoor
open Go.RowKit

theorem lOk_of_lt {g : List (List Int)} (h : GOk g) {s : Nat} (hs : s < 2 ^ g.length) : LOk g s where
  ok := h
  s16 := (cand_bits h.le hs).2
  inn := fun i hi => ((cand_bits h.le hs).1.inn i ((mem_bitsOf' (by have := (cand_bits h.le hs).2; omega)).2 hi)).2
theorem bits_len16 {g : List (List Int)} (h : GOk g) {s : Nat} (hs : s < 2 ^ g.length) : (bitsOf s).length ≤ 16 := by
  have hc := (cand_bits h.le hs).1
  have := h.le
  by_cases he : bitsOf s = []
  · rw [he]; simp
  · have := rising_room hc.ris hc.inn he
    omega

theorem bits_nil0 {l : Nat} (h : l < 65536) (e : ¬ natInts (bitsOf l) ≠ []) : l = 0 := by
  have e1 : natInts (bitsOf l) = [] := Decidable.byContradiction e
  have e2 : bitsOf l = [] := by simpa [natInts] using e1
  rw [← mask_bitsOf h, e2]
  rfl

/-- What stands below the call. -/
structure ObBase (w : World) (g : List (List Int)) (xp : Option Addr) (xc ba : Nat) : Prop where
  ok : GOk g
  h8 : g.length ≤ 8
  box : Box w ba 76 (.slice xp g.length xc)
  sl : Sl w 79 (.slice xp g.length xc) g.length ((netL g).map u32v)
  tab : Tab w
theorem ObBase.next {w w' : World} {g : List (List Int)} {xp : Option Addr} {xc ba : Nat} (h : ObBase w g xp xc ba) (hb : Below w.heap.size w w') : ObBase w' g xp xc ba :=
  ⟨h.ok, h.h8, h.box.keep hb, h.sl.below hb, h.tab.keep hb⟩

end Go.Proofs.YtmakhapdlkbbnaaDoor

/- Walks: chooseSets. -/
namespace Go.Proofs.YtmakhapdlkbbnaaDoor
open Go.RowKit

theorem ch_yes_no {P : Nat → Prop} {n lo many chosen : Nat} (h : ChNo P n lo many chosen) : ¬ ∃ s, ChYes P n lo many chosen s := by
  rintro ⟨s, T, h1, h2, h3, _⟩
  exact h T h1 (h2 ▸ h3)
theorem or_one {c v n : Nat} (hc : c < 2 ^ n) (hv : v < n) : c ||| 2 ^ v < 2 ^ n := Nat.or_lt_two_pow hc (Nat.pow_lt_pow_right (by decide) hv)

end Go.Proofs.YtmakhapdlkbbnaaDoor

/- Walk: the program's test of a small graph. -/
namespace Go.Proofs.YtmakhapdlkbbnaaDoor
open Go.RowKit

set_option maxRecDepth 100000 in
set_option maxHeartbeats 1000000 in
theorem isSmall_any (v : Value) (g : List (List Int)) (w : World) (hg : Gr w v g) :
    Calls Tryd.prog 109 #[v] w fun e w' => e = .returned (.bool (dec (GOk g ∧ g.length ≤ 8))) ∧ Below w.heap.size w w' := by
  have hg0 := hg
  obtain ⟨u, rfl, hr⟩ := hg
  obtain ⟨p, c, rfl, _, _, _⟩ := hr.shape
  have hbA := Lib.hid (below_alloc w (.cells #[.slice p g.length c] 29))
  have HG := Lib.hid (hg0.below hbA.out)
  have BX := Lib.hid (Box.new w (.slice p g.length c) 29)
  clear hr hg0
  by_cases hok : GOk g
  · have hd := dec_true hok
    have Hok := Lib.hid hok
    clear hok
    have H : dec (GOk g ∧ g.length ≤ 8) = decide (g.length ≤ 8) := by
      by_cases h : g.length ≤ 8
      · rw [dec_true (show GOk g ∧ g.length ≤ 8 from ⟨Hok.out, h⟩)]; simp [h]
      · rw [dec_false (show ¬ (GOk g ∧ g.length ≤ 8) from fun k => h k.2)]; simp [h]
    have HH := Lib.hid H
    clear H
    go_enter Tryd.func109, Tryd.ntmps109
    go_wp2_with (go_at_call 80; refine (implGraphOk_any _ g _ HG.out).mono ?_; rintro e w2 ⟨he, hb2⟩; rw [hd] at he; subst he; have hbx := (BX.out.keep hb2).cell)
    go_ret
    exact ⟨by rw [HH.out]; exact ret_bool (by simp; omega), hbA.out.trans (hb2.mono hbA.out.size)⟩
  · have hd := dec_false hok
    have HH := Lib.hid (dec_false (show ¬ (GOk g ∧ g.length ≤ 8) from fun k => hok k.1))
    clear hok
    go_enter Tryd.func109, Tryd.ntmps109
    go_wp2_with (go_at_call 80; refine (implGraphOk_any _ g _ HG.out).mono ?_; rintro e w2 ⟨he, hb2⟩; rw [hd] at he; subst he)
    go_ret
    exact ⟨by rw [HH.out]; rfl, hbA.out.trans (hb2.mono hbA.out.size)⟩

end Go.Proofs.YtmakhapdlkbbnaaDoor

/- Walks: smallestSet; the program's ObstacleOf. -/
namespace Go.Proofs.YtmakhapdlkbbnaaDoor
open Go.RowKit

end Go.Proofs.YtmakhapdlkbbnaaDoor

/- Walks: modulesOf, ModulesOf of the program. -/
namespace Go.Proofs.YtmakhapdlkbbnaaDoor
open Go.RowKit Go.Sort

theorem tyM_vsets : SlTy Tryd.prog 75 79 (.int .u32 0) 1 4 := ⟨Tryd.underlying75, by kernel_rfl, rfl, by decide, by decide⟩
noncomputable def cmpG (x y : Fin 256) : Int := cmpS (bitsOf x.val) (bitsOf y.val)
theorem ltG {x y : Fin 256} : ltOf cmpG x y = true ↔ lessP (bitsOf x.val) (bitsOf y.val) := by
  unfold ltOf cmpG
  rw [decide_eq_true_iff, cmpS_lt]
theorem ltG_no {x y : Fin 256} : ltOf cmpG x y = false ↔ ¬ lessP (bitsOf x.val) (bitsOf y.val) := by
  rw [← ltG]
  simp
theorem swoG : SWO (ltOf cmpG) where
  irrefl x := ltG_no.2 (lessP_irrefl _)
  trans x y z h1 h2 := ltG.2 (lessP_trans (ltG.1 h1) (ltG.1 h2))
  ntrans x y z h1 h2 := by
    rw [ltG_no] at *
    intro h
    by_cases hyx : lessP (bitsOf y.val) (bitsOf x.val)
    · exact h2 (lessP_trans hyx h)
    · rw [lessP_tri h1 hyx] at h
      exact h2 h
theorem totG (x y : Fin 256) (h1 : ltOf cmpG x y = false) (h2 : ltOf cmpG y x = false) : x = y := by
  have e := lessP_tri (ltG_no.1 h1) (ltG_no.1 h2)
  have := congrArg (fun l => mask (natInts l)) e
  simp only [mask_bitsOf (show x.val < 65536 by have := x.isLt; omega), mask_bitsOf (show y.val < 65536 by have := y.isLt; omega)] at this
  exact Fin.ext this
theorem cmpOkGS : CmpOkG 160 cmpG := fun x y W hT => bySize_any x.val y.val x.isLt y.isLt W hT

/-- The sets, sorted, as lists. -/
noncomputable def srtG (l : List (Fin 256)) : List (List Nat) := (l.mergeSort fun x y => !ltOf cmpG y x).map fun x => bitsOf x.val
theorem srtG_on {P : Nat → Prop} {k : Nat} (hk : k ≤ 256) {l : List (Fin 256)} (hnd : l.Nodup) (hm : ∀ x : Fin 256, x ∈ l ↔ 1 ≤ x.val ∧ x.val < k ∧ P x.val) : MdOn P k (srtG l) := by
  have hp : (l.mergeSort fun x y => !ltOf cmpG y x).Perm l := List.mergeSort_perm _ _
  have hinj : ∀ x y : Fin 256, bitsOf x.val = bitsOf y.val → x = y := fun x y e => by
    have := congrArg (fun l => mask (natInts l)) e
    simp only [mask_bitsOf (show x.val < 65536 by have := x.isLt; omega), mask_bitsOf (show y.val < 65536 by have := y.isLt; omega)] at this
    exact Fin.ext this
  have hsort : (l.mergeSort fun x y => !ltOf cmpG y x).Pairwise fun x y => (!ltOf cmpG y x) = true := List.pairwise_mergeSort (fun x y z h1 h2 => by
      simp only [Bool.not_eq_true'] at *
      exact swoG.ntrans z y x h2 h1) (fun x y => by
      by_cases h : ltOf cmpG x y = true
      · have : ltOf cmpG y x = false := ltG_no.2 fun k => lessP_irrefl _ (lessP_trans (ltG.1 h) k)
        simp [this]
      · simp [h]) l
  refine mdOn_sorted (by omega) ?_ ?_ fun x => ?_
  · unfold srtG
    have : (l.mergeSort fun x y => !ltOf cmpG y x).Nodup := hp.symm.nodup hnd
    unfold List.Nodup at *
    rw [List.pairwise_map]
    exact this.imp fun h e => h (hinj _ _ e)
  · unfold srtG
    rw [List.pairwise_map]
    exact hsort.imp fun h => ltG_no.1 (by simpa using h)
  · unfold srtG
    rw [List.mem_map]
    constructor
    · rintro ⟨y, hy, rfl⟩
      obtain ⟨a, b, c⟩ := (hm y).1 (hp.mem_iff.1 hy)
      exact ⟨y.val, a, b, c, rfl⟩
    · rintro ⟨s, a, b, c, rfl⟩
      exact ⟨⟨s, by omega⟩, hp.mem_iff.2 ((hm _).2 ⟨a, b, c⟩), rfl⟩

end Go.Proofs.YtmakhapdlkbbnaaDoor
