/- Walks: slices.SortFunc over a row of sets, under an order that parts any two. -/
import Derived.Shelf.SlSortCmp.NoneTotal
import Derived.Test.YtdkmnmnncccgaaaDoorMdQ36
import Derived.Test.YtdkmnmnncccgaaaDoorMdQ34
import Derived.Test.YtdkmnmnncccgaaaDoorMdQ3
import Derived.Test.YtdkmnmnncccgaaaDoorMdQ19
import Derived.Test.YtdkmnmnncccgaaaDoorMdQ20
namespace Go.Proofs.YtdkmnmnncccgaaaDoor
open Go.Shelf Go.RowKit Go.Lib Go.Sort

/-- A set of 16 as a value. -/
def encF (x : Fin 65536) : Value := .int .u32 (x.val : Int)
theorem holds_of_block_f {w : World} {g : Nat} {cur : Array Value} {e : TypeId} {l : List (Fin 65536)} (hb : w.heap[g]? = some (.cells cur e (0, 0))) (ht : cur.toList.take l.length = l.map encF) : Holds encF w g 0 l.toArray := by
  intro j hj
  have hj' : j < l.length := by simpa using hj
  refine ⟨?_, by simp [World.frozen?, hb]⟩
  have h1 : (cur.toList.take l.length)[j]? = (l.map encF)[j]? := by rw [ht]
  rw [List.getElem?_take_of_lt hj'] at h1
  simp only [World.cell?, hb, Nat.zero_add]
  simp only [Option.isSome_none, Bool.false_eq_true, if_false]
  rw [← Array.getElem?_toList, h1]
  simp [hj']
theorem heap_sorted_f {w : World} {g n : Nat} {os : Array Obj} {cur : Array Value} {e : TypeId} {fr : Nat × Nat} (d : Array (Fin 65536)) (hb : w.heap[g]? = some (.cells cur e fr)) :
    (sortWorld encF w g 0 n d os).heap[g]? = some (.cells (putCells encF 0 d cur) e fr) := by
  have hg : g < w.heap.size := (Array.getElem?_eq_some_iff.1 hb).1
  unfold sortWorld
  rw [heap_grow_old _ _ (by simpa using hg)]
  simp [putRow, mapBlock, Sort.ahead, Array.getElem?_modify, hb, onCells]
theorem grownBy_sorted_f {w : World} {g n : Nat} {os : Array Obj} (d : Array (Fin 65536)) : w.grownBy (sortWorld encF w g 0 n d os) (some g) := by
  unfold sortWorld
  refine ⟨rfl, rfl, rfl, by simp, fun k hk hne => ?_⟩
  rw [heap_grow_old _ _ (by simpa using hk)]
  have : g ≠ k := fun e => hne (by rw [e])
  simp [putRow, mapBlock, Sort.ahead, Array.getElem?_modify, this]
theorem take_putCells_f (cur : Array Value) (ts : List (Fin 65536)) (h : ts.length ≤ cur.size) : (putCells encF 0 ts.toArray cur).toList.take ts.length = ts.map encF := by
  apply List.ext_getElem?
  intro j
  by_cases hj : j < ts.length
  · rw [List.getElem?_take_of_lt hj, Array.getElem?_toList]
    simp [putCells, hj, show j < cur.size by omega]
  · rw [List.getElem?_take_eq_none (by omega), List.getElem?_eq_none (by simp; omega)]
theorem ownsRow_sorted_f {w : World} {base g cap n : Nat} {e : TypeId} {os : Array Obj} {cur : Array Value} {ss ts : List (Fin 65536)} (hl : ts.length = ss.length) (hbase : base ≤ g) (hb : w.heap[g]? = some (.cells cur e (0, 0)))
    (h1 : ss.length ≤ cap) (h2 : cap ≤ maxLen) (h3 : cur.size = cap * 1) :
    (sortWorld encF w g 0 n ts.toArray os).ownsRow base e 1 (.slice (some ⟨g, 0, none⟩) ss.length cap) ss.length (ts.map encF) :=
  ⟨by simp [hl], .inr ⟨g, cap, _, rfl, hbase, heap_sorted_f _ hb, h1, h2, by simp [putCells, h3], by rw [Nat.mul_one, ← hl]; exact take_putCells_f cur ts (by omega)⟩⟩

/-- What is laid behind a world, and drawn, since it only grows. -/
theorem grow_of_below {w w' : World} (h : Below w.heap.size w w') (hd : w.drawn ≤ w'.drawn) : ∃ q os, w' = grow (w.drewN q) os := by
  obtain ⟨p, hp⟩ := regrown_of_below h
  subst hp
  have hd' : w.drawn ≤ p.d := hd
  refine ⟨p.d - w.drawn, p.os, ?_⟩
  have e : redrawn w p.d = w.drewN (p.d - w.drawn) := by
    unfold redrawn World.drewN
    rw [Nat.add_sub_cancel' hd']
  rw [e]
/-- What is asked of a comparison. -/
def CmpOk (f : FuncId) (cf : Fin 65536 → Fin 65536 → Int) : Prop :=
  ∀ (x y : Fin 65536) (W : World), Tab W → Calls Tryd.prog f #[encF x, encF y] W fun e w' => e = .returned (.int .i64 (cf x y)) ∧ Below W.heap.size W w' ∧ W.drawn ≤ w'.drawn
theorem CmpOk.lays {f : FuncId} {cf : Fin 65536 → Fin 65536 → Int} (h : CmpOk f cf) {blk size : Nat} {w : World} (hT : Tab w) (hne : 0 ≠ blk) : CmpLays1 Tryd.prog f #[] encF cf blk 0 size w := fun m os dk _ x y => by
  have hTW : Tab (sortWorld encF w blk 0 m dk os) := fun j hj => by
    unfold sortWorld
    have hl := World.block_lt_of_cell? w _ (hT j hj)
    rw [cell?_grow _ _ _ (by simpa using hl), cell?_putRow_other _ _ _ _ _ _ (.inl hne)]
    exact hT j hj
  refine (h x y _ hTW).mono fun e w' ⟨h1, h2, h3⟩ => ⟨h1, grow_of_below h2 h3⟩

set_option maxRecDepth 100000 in
theorem sortF_any (f : FuncId) (eg : ∀ args w, (callFunc f args).run Tryd.prog w = .ok (.enter f args) w) (cf : Fin 65536 → Fin 65536 → Int) (hO : SWO (ltOf cf)) (hT : ∀ x y, (ltOf cf) x y = false → (ltOf cf) y x = false → x = y) (hC : CmpOk f cf)
    (v : Value) (l : List (Fin 65536)) (base : Nat) (w : World) (hown : w.ownsRow base 50 1 v l.length (l.map encF)) (hTab : Tab w) (hb : 0 < base) (hl : l.length ≤ 1000000000) :
    Calls Tryd.prog 61 #[v, .func (.func f) #[] #[]] w fun e w' => e = .returned (.tuple #[]) ∧ w'.ownsRow base 50 1 v l.length ((l.mergeSort fun x y => !(ltOf cf) y x).map encF) ∧ w.grownBy w' v.ownBlock := by
  rcases id hown.2 with ⟨rfl, hz0⟩ | ⟨gb, cap, cur, rfl, hbase, hgb, r1, r2, r3, r4⟩
  · obtain rfl := List.eq_nil_of_length_eq_zero hz0
    have hc := AnyF.slices_SortFunc_none (P := Tryd.prog) (ρ := sortF_ren) { sortF with } none 0 (.func (.func f) #[] #[]) w
    refine Calls.mono hc ?_
    rintro e w3 ⟨rfl, rfl⟩
    exact ⟨rfl, by simpa using hown, World.grownBy.refl _ _⟩
  · have hH : Holds encF w gb 0 l.toArray := holds_of_block_f hgb (by simpa using r4)
    have hgl : gb < w.heap.size := (Array.getElem?_eq_some_iff.1 hgb).1
    have hc := Any.slices_SortFunc_total sortF encF (fun _ => rfl) cf hO f #[] gb 0 cap l.toArray w eg (hC.lays hTab (by omega)) hH hgl (by simp; omega) hT
    have hs : l.toArray.size = l.length := by simp
    rw [hs] at hc
    refine hc.mono ?_
    rintro e w3 ⟨rfl, nn, os, rfl⟩
    exact ⟨rfl, ownsRow_sorted_f (by simp) hbase hgb r1 r2 r3, grownBy_sorted_f _⟩

end Go.Proofs.YtdkmnmnncccgaaaDoor

/- Walks: slices.SortFunc over a row of sets of eight, under an order that parts any two. -/
namespace Go.Proofs.YtdkmnmnncccgaaaDoor
open Go.Shelf Go.RowKit Go.Lib Go.Sort

/-- A set of eight as a value. -/
def encG (x : Fin 256) : Value := .int .u32 (x.val : Int)
theorem holds_of_block_g {w : World} {g : Nat} {cur : Array Value} {e : TypeId} {l : List (Fin 256)} (hb : w.heap[g]? = some (.cells cur e (0, 0))) (ht : cur.toList.take l.length = l.map encG) : Holds encG w g 0 l.toArray := by
  intro j hj
  have hj' : j < l.length := by simpa using hj
  refine ⟨?_, by simp [World.frozen?, hb]⟩
  have h1 : (cur.toList.take l.length)[j]? = (l.map encG)[j]? := by rw [ht]
  rw [List.getElem?_take_of_lt hj'] at h1
  simp only [World.cell?, hb, Nat.zero_add]
  simp only [Option.isSome_none, Bool.false_eq_true, if_false]
  rw [← Array.getElem?_toList, h1]
  simp [hj']
theorem heap_sorted_g {w : World} {g n : Nat} {os : Array Obj} {cur : Array Value} {e : TypeId} {fr : Nat × Nat} (d : Array (Fin 256)) (hb : w.heap[g]? = some (.cells cur e fr)) :
    (sortWorld encG w g 0 n d os).heap[g]? = some (.cells (putCells encG 0 d cur) e fr) := by
  have hg : g < w.heap.size := (Array.getElem?_eq_some_iff.1 hb).1
  unfold sortWorld
  rw [heap_grow_old _ _ (by simpa using hg)]
  simp [putRow, mapBlock, Sort.ahead, Array.getElem?_modify, hb, onCells]
theorem grownBy_sorted_g {w : World} {g n : Nat} {os : Array Obj} (d : Array (Fin 256)) : w.grownBy (sortWorld encG w g 0 n d os) (some g) := by
  unfold sortWorld
  refine ⟨rfl, rfl, rfl, by simp, fun k hk hne => ?_⟩
  rw [heap_grow_old _ _ (by simpa using hk)]
  have : g ≠ k := fun e => hne (by rw [e])
  simp [putRow, mapBlock, Sort.ahead, Array.getElem?_modify, this]
theorem take_putCells_g (cur : Array Value) (ts : List (Fin 256)) (h : ts.length ≤ cur.size) : (putCells encG 0 ts.toArray cur).toList.take ts.length = ts.map encG := by
  apply List.ext_getElem?
  intro j
  by_cases hj : j < ts.length
  · rw [List.getElem?_take_of_lt hj, Array.getElem?_toList]
    simp [putCells, hj, show j < cur.size by omega]
  · rw [List.getElem?_take_eq_none (by omega), List.getElem?_eq_none (by simp; omega)]
theorem ownsRow_sorted_g {w : World} {base g cap n : Nat} {e : TypeId} {os : Array Obj} {cur : Array Value} {ss ts : List (Fin 256)} (hl : ts.length = ss.length) (hbase : base ≤ g) (hb : w.heap[g]? = some (.cells cur e (0, 0)))
    (h1 : ss.length ≤ cap) (h2 : cap ≤ maxLen) (h3 : cur.size = cap * 1) :
    (sortWorld encG w g 0 n ts.toArray os).ownsRow base e 1 (.slice (some ⟨g, 0, none⟩) ss.length cap) ss.length (ts.map encG) :=
  ⟨by simp [hl], .inr ⟨g, cap, _, rfl, hbase, heap_sorted_g _ hb, h1, h2, by simp [putCells, h3], by rw [Nat.mul_one, ← hl]; exact take_putCells_g cur ts (by omega)⟩⟩

/-- What is asked of a comparison. -/
def CmpOkG (f : FuncId) (cf : Fin 256 → Fin 256 → Int) : Prop :=
  ∀ (x y : Fin 256) (W : World), Tab W → Calls Tryd.prog f #[encG x, encG y] W fun e w' => e = .returned (.int .i64 (cf x y)) ∧ Below W.heap.size W w' ∧ W.drawn ≤ w'.drawn
theorem CmpOkG.lays {f : FuncId} {cf : Fin 256 → Fin 256 → Int} (h : CmpOkG f cf) {blk size : Nat} {w : World} (hT : Tab w) (hne : 0 ≠ blk) : CmpLays1 Tryd.prog f #[] encG cf blk 0 size w := fun m os dk _ x y => by
  have hTW : Tab (sortWorld encG w blk 0 m dk os) := fun j hj => by
    unfold sortWorld
    have hl := World.block_lt_of_cell? w _ (hT j hj)
    rw [cell?_grow _ _ _ (by simpa using hl), cell?_putRow_other _ _ _ _ _ _ (.inl hne)]
    exact hT j hj
  refine (h x y _ hTW).mono fun e w' ⟨h1, h2, h3⟩ => ⟨h1, grow_of_below h2 h3⟩

set_option maxRecDepth 100000 in
theorem sortG_any (f : FuncId) (eg : ∀ args w, (callFunc f args).run Tryd.prog w = .ok (.enter f args) w) (cf : Fin 256 → Fin 256 → Int) (hO : SWO (ltOf cf)) (hT : ∀ x y, (ltOf cf) x y = false → (ltOf cf) y x = false → x = y) (hC : CmpOkG f cf)
    (v : Value) (l : List (Fin 256)) (base : Nat) (w : World) (hown : w.ownsRow base 50 1 v l.length (l.map encG)) (hTab : Tab w) (hb : 0 < base) (hl : l.length ≤ 1000000000) :
    Calls Tryd.prog 61 #[v, .func (.func f) #[] #[]] w fun e w' => e = .returned (.tuple #[]) ∧ w'.ownsRow base 50 1 v l.length ((l.mergeSort fun x y => !(ltOf cf) y x).map encG) ∧ w.grownBy w' v.ownBlock := by
  rcases id hown.2 with ⟨rfl, hz0⟩ | ⟨gb, cap, cur, rfl, hbase, hgb, r1, r2, r3, r4⟩
  · obtain rfl := List.eq_nil_of_length_eq_zero hz0
    have hc := AnyF.slices_SortFunc_none (P := Tryd.prog) (ρ := sortF_ren) { sortF with } none 0 (.func (.func f) #[] #[]) w
    refine Calls.mono hc ?_
    rintro e w3 ⟨rfl, rfl⟩
    exact ⟨rfl, by simpa using hown, World.grownBy.refl _ _⟩
  · have hH : Holds encG w gb 0 l.toArray := holds_of_block_g hgb (by simpa using r4)
    have hgl : gb < w.heap.size := (Array.getElem?_eq_some_iff.1 hgb).1
    have hc := Any.slices_SortFunc_total sortF encG (fun _ => rfl) cf hO f #[] gb 0 cap l.toArray w eg (hC.lays hTab (by omega)) hH hgl (by simp; omega) hT
    have hs : l.toArray.size = l.length := by simp
    rw [hs] at hc
    refine hc.mono ?_
    rintro e w3 ⟨rfl, nn, os, rfl⟩
    exact ⟨rfl, ownsRow_sorted_g (by simp) hbase hgb r1 r2 r3, grownBy_sorted_g _⟩

end Go.Proofs.YtdkmnmnncccgaaaDoor

/- Plain: the least set that is not pruned away. -/
namespace Go.Proofs.YtdkmnmnncccgaaaDoor

/-- A set that is not pruned away whole. -/
def StuckN (g : List (List Int)) (s : Nat) : Prop := ∃ ps L, Prunes g (natInts (bitsOf s)) ps L ∧ L ≠ []
theorem stuck_iff {g : List (List Int)} {s : Nat} {ps : List Pr} {L : List Int} (h : Prunes g (natInts (bitsOf s)) ps L) : StuckN g s ↔ L ≠ [] :=
  ⟨fun ⟨qs, M, h1, h2⟩ => by rw [(prunes_det h h1).2]; exact h2, fun h1 => ⟨ps, L, h, h1⟩⟩
theorem stuck_zero (g : List (List Int)) : ¬ StuckN g 0 := by
  have h : Prunes g (natInts (bitsOf 0)) [] [] := by
    rw [bitsOf_zero]
    exact .done [] fun j hj => by simp at hj
  rw [stuck_iff h]
  simp
def ObB (g : List (List Int)) : Prop := (GOk g ∧ g.length ≤ 8) ∧ ∃ s, s < 2 ^ g.length ∧ StuckN g s
/-- What ObstacleOf returns. -/
def ObS (g : List (List Int)) (ys : List Int) : Prop := (ObB g ∧ ∃ s, LeastP (StuckN g) g.length s ∧ ys = natInts (bitsOf s)) ∨ (¬ ObB g ∧ ys = [])
theorem obS_det {g : List (List Int)} {ys zs : List Int} (h : ObS g ys) (k : ObS g zs) : ys = zs := by
  rcases h with ⟨hb, s, h, rfl⟩ | ⟨hb, rfl⟩ <;> rcases k with ⟨kb, t, k, rfl⟩ | ⟨kb, rfl⟩
  · rw [leastP_det hb.1.1.le h k]
  · exact absurd hb kb
  · exact absurd kb hb
  · rfl
theorem obS_none {g : List (List Int)} (hn : ∀ t, t < 2 ^ g.length → ¬ StuckN g t) : ¬ ObB g ∧ ObS g [] := by
  have h : ¬ ObB g := fun ⟨_, t, h1, h2⟩ => hn t h1 h2
  exact ⟨h, .inr ⟨h, rfl⟩⟩
theorem obS_out {g : List (List Int)} (hn : ¬ (GOk g ∧ g.length ≤ 8)) : ¬ ObB g ∧ ObS g [] := by
  have h : ¬ ObB g := fun ⟨h1, _⟩ => hn h1
  exact ⟨h, .inr ⟨h, rfl⟩⟩
theorem obS_some {g : List (List Int)} {s : Nat} (h1 : GOk g) (h2 : g.length ≤ 8) (h : LeastP (StuckN g) g.length s) : ObB g ∧ ObS g (natInts (bitsOf s)) ∧ (natInts (bitsOf s)).length ≤ 16 := by
  have hb : ObB g := ⟨⟨h1, h2⟩, s, h.1, h.2.1⟩
  refine ⟨hb, .inl ⟨hb, s, h, rfl⟩, ?_⟩
  obtain ⟨hc, _⟩ := cand_bits h1.le h.1
  rw [natInts_length]
  by_cases he : bitsOf s = []
  · rw [he]; simp
  · have := rising_room hc.ris hc.inn he
    omega

end Go.Proofs.YtdkmnmnncccgaaaDoor
