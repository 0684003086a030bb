/- Walks: the reference's draws: graphs whose rows are the callee's own (l1Empty, l6Of, PathGraph, LoopGraph). -/
import Derived.Test.YtkppbmfliejnmaaDoorSnQ33
import Derived.Test.YtkppbmfliejnmaaDoorSnQ12
import Derived.Test.YtkppbmfliejnmaaDoorSnQ28
namespace Go.Proofs.YtkppbmfliejnmaaDoor
open Go.RowKit

set_option maxRecDepth 100000 in
set_option maxHeartbeats 2000000 in
theorem l1EmptyD_any (z : Int) (n : Nat) (hz : z = n) (hn : n ≤ 1000) (w : World) :
    Calls Tryd.prog 157 #[.int .i64 z] w fun e w' => ∃ u, e = .returned u ∧ DG w' w.heap.size u (List.replicate n []) ∧ Below w.heap.size w w' := by
  subst hz
  have START := Lib.hid (two_boxes w)
  go_enter Tryd.func157, Tryd.ntmps157
  go_wp2
  go_loopw [4] (fun i wr => ∃ (k : Nat) (ov : Value) (vals : List Value), k ≤ n ∧ i = .int .i64 k ∧ Below w.heap.size w wr ∧ w.heap.size + 2 ≤ wr.heap.size ∧
      Box wr w.heap.size 29 (.slice none 0 0) ∧ Box wr (w.heap.size + 1) 29 ov ∧ wr.ownsRow (w.heap.size + 2) 33 1 ov k vals ∧ vals.length = k ∧ Dis wr (w.heap.size + 2) k vals (List.replicate n []))
    (fun i _ => n - (intOf i).toNat)
  case atStart =>
    obtain ⟨W, rfl, h1, h2, h3, h4⟩ := START.out
    exact ⟨0, _, [], Nat.zero_le _, rfl, h1, by omega, h3, h4, World.ownsRow_nil _ _ _ _, rfl, ⟨fun j hj => by omega, fun i j hi => by omega⟩⟩
  case round =>
    obtain ⟨k, ov, vals, hk, rfl, hbel, hsz, hb2, hb3, hown, hvl, hrows⟩ := hrel
    have Hvl := Lib.hid hvl
    have Hrows := Lib.hid hrows
    have Hb2 := Lib.hid hb2
    have Hb3 := Lib.hid hb3
    have Hown := Lib.hid hown
    clear hvl hrows hb3 hb2 hown
    by_cases hlt : k < n
    · have hba := Lib.hid (below_alloc wr (.cells #[] 2))
      have hownc := ownsRow_below Hown.out hba.out
      obtain ⟨c3, f3, _, _⟩ := Hb3.out
      have hob := fun o => (below_alloc2 wr (.cells #[] 2) o).at' c3
      go_wp2_with (at_builtin; refine wpList_app1s ty_rows rfl rfl rfl hownc (by rw [size_alloc]; rfl) rfl (by omega) (by rw [size_alloc]; omega) ?_; intro b7 c8 w7 hown7 hg7 _; have hb7 := below_grown (Below.refl (w.heap.size + 2) (wr.alloc (.cells #[] 2))) hownc hg7 (Nat.le_refl _) (by rw [size_alloc]; omega); have hob7 := hb7.at (by omega) ((below_alloc wr (.cells #[] 2)).at' c3); have hof7 := (hb7.frozen (p := ⟨w.heap.size + 1, 0, none⟩) (by show w.heap.size + 1 < _; omega)).trans (((below_alloc wr (.cells #[] 2)).frozen (p := ⟨w.heap.size + 1, 0, none⟩) (by show w.heap.size + 1 < _; omega)).trans f3))
      go_roundw
      case rel =>
        obtain ⟨W, rfl, r1, r2, r3, r4, r5, r6⟩ := box_step hbel hsz hba.out Hb2.out Hb3.out Hown.out hown7 hg7
        refine ⟨k + 1, _, _, by omega, by go_num, r1, r2, r3, r4, r5, by simp [Hvl.out], ?_⟩
        have hd : Dis (wr.alloc (.cells #[] 2)) (w.heap.size + 2) k vals (List.replicate n []) := ⟨fun j hj => ownsRow_below (Hrows.out.rows j hj) hba.out, Hrows.out.dis⟩
        refine hd.snoc Hvl.out r6 (B := wr.heap.size) (by omega) (fun j hj b hb => ((Hrows.out.rows j hj).lt b hb).2) ?_
        rw [show row (List.replicate n ([] : List Int)) k = [] by simp [row, hlt]]
        exact ownsRow_empty _ _ _
      case measure => simp [intOf]; omega
    · obtain rfl : k = n := by omega
      obtain ⟨k2c, k2f, _⟩ := Hb2.out
      obtain ⟨k3c, k3f, _⟩ := Hb3.out
      obtain ⟨p9, c9, rfl⟩ : ∃ p c, ov = .slice p k c := by
        rcases Hown.out.2 with ⟨h1, h2⟩ | ⟨g1, cap, cur, h1, _⟩
        · exact ⟨none, 0, by rw [h1, h2]⟩
        · exact ⟨_, _, h1⟩
      go_wp2
      refine bodyPost_ret (v := .agg #[.slice p9 k c9]) (by simp [results, Tryd.results157, go_sem, k2c]) rfl ⟨_, rfl, ⟨_, vals, rfl, by simpa using Hvl.out, ?_, ⟨fun j hj => ?_, fun i j hi hj => Hrows.out.dis i j (by simpa using hi) (by simpa using hj)⟩⟩, ?_⟩
      · rw [List.length_replicate]; exact ownsRow_base (ownsRow_setBox Hown.out Hb2.out (by decide) (.slice p9 k c9)) (by omega)
      · rw [List.length_replicate] at hj
        exact ownsRow_base (ownsRow_setBox (Hrows.out.rows j hj) Hb2.out (by decide) _) (by omega)
      · exact hbel.setCell (by show w.heap.size ≤ w.heap.size; omega) _


theorem DG.lt {w : World} {base : Nat} {u : Value} {g : List (List Int)} (h : DG w base (.agg #[u]) g) : ∀ k, u.ownBlock = some k → base ≤ k ∧ k < w.heap.size := by
  obtain ⟨u', vals, e, _, h3, _⟩ := h
  cases e
  exact fun k hk => h3.lt k hk
/-- A boxed graph whose rows are the callee's own. -/
structure LdI (W0 wr : World) (base b5 : Nat) (p : Option Addr) (c m : Nat) (gg : List (List Int)) : Prop where
  dg : DG wr base (.agg #[.slice p m c]) gg
  bel : Below W0.heap.size W0 wr
  box : Box wr b5 29 (.slice p m c)
  own : ∀ k, (Value.slice p m c).ownBlock = some k → base ≤ k ∧ k < b5
  hb : W0.heap.size ≤ base
  b5 : base ≤ b5
theorem LdI.next {W0 wr wx : World} {base b5 : Nat} {p : Option Addr} {c m : Nat} {gg : List (List Int)} (h : LdI W0 wr base b5 p c m gg) (hb : Below wr.heap.size wr wx) : LdI W0 wx base b5 p c m gg :=
  ⟨h.dg.below hb, h.bel.trans (hb.mono h.bel.size), h.box.keep hb, h.own, h.hb, h.b5⟩
theorem LdI.link {W0 wr w2 : World} {base b5 : Nat} {p : Option Addr} {c m : Nat} {gg gg' : List (List Int)} (h : LdI W0 wr base b5 p c m gg) (hs : DG w2 base (.agg #[.slice p m c]) gg') (hg : wr.grownBy w2 (Value.slice p m c).ownBlock) :
    LdI W0 (w2.setCell ⟨b5, 0, none⟩ (.slice p m c)) base b5 p c m gg' := by
  have hbox := h.box.grown hg (fun e => by have := (h.own b5 e.symm).2; omega)
  exact ⟨hs.setBox hbox _, (h.bel.grown hg h.bel.size (fun k hk => Nat.le_trans h.hb (h.own k hk).1)).setCell (Nat.le_trans h.hb h.b5) _, hbox.set _, h.own, h.hb, h.b5⟩
/-- Neighbours follow each other. -/
def pthE (r j : Nat) : Bool := decide (r + 1 = j) || decide (j + 1 = r)
theorem pthE_symI : SymI pthE := ⟨fun r j h => by unfold pthE at *; simp at *; omega, fun r => by unfold pthE; simp⟩
def pthTo (v : Nat) : Nat → Nat → Bool := fun r j => pthE r j && decide (max r j < v)
theorem pthTo_start {m : Nat} : matG m (pthTo 1) = List.replicate m [] := matG_none m fun r j _ _ => by unfold pthTo pthE; simp; omega
theorem pthTo_step {m v : Nat} (h1 : 1 ≤ v) (hv : v < m) : linkL (matG m (pthTo v)) (v - 1) v = matG m (pthTo (v + 1)) := by
  rw [link_matG (by omega) hv (by omega)]
  refine matG_congr fun r j hr hj => ?_
  unfold pthTo pthE
  rw [Bool.eq_iff_iff]
  simp
  omega
theorem pthTo_end {m : Nat} : matG m (pthTo m) = matG m pthE := matG_congr fun r j hr hj => by
  unfold pthTo
  simp [show max r j < m by omega]
theorem not_mem_matG {m : Nat} {E : Nat → Nat → Bool} {r k : Nat} (hr : r < m) (h : E r k = false) : (k : Int) ∉ row (matG m E) r := fun hm => by
  obtain ⟨j, e, _, hE⟩ := (mem_matG hr).1 hm
  obtain rfl : j = k := by omega
  rw [h] at hE
  exact absurd hE (by decide)

set_option maxRecDepth 100000 in
set_option maxHeartbeats 4000000 in
theorem l6Of_yes (z : Int) (n : Nat) (hz : z = n) (h1 : 1 ≤ n) (hn : n ≤ 16) (w : World) :
    Calls Tryd.prog 152 #[.int .i64 z] w fun e w' => ∃ u, e = .returned (.tuple #[u, .bool true]) ∧ DG w' w.heap.size u (List.replicate n []) ∧ Below w.heap.size w w' := by
  subst hz
  have HR := Lib.hid (Box.new w (.slice none 0 0) 29)
  have HB := Lib.hid (below_alloc w (.cells #[.slice none 0 0] 29))
  have HD := Lib.hid (dec_true (show (1 : Int) ≤ (n : Int) ∧ (n : Int) ≤ 16 from ⟨by omega, by omega⟩))
  go_enter Tryd.func152, Tryd.ntmps152
  go_wp2_with (first
    | (go_at_call 157; refine (l1EmptyD_any _ n rfl (by omega) _).mono ?_; rintro e w2 ⟨u, rfl, hs2, hb2⟩; obtain ⟨gp, gc, rfl⟩ := hs2.shape; rw [List.length_replicate] at hs2 ⊢; obtain ⟨nc, nf, nl, nB⟩ := HR.out.keep hb2)
    | (go_at_call 153; refine (l1In_any _ _ _ _).mono ?_; rintro e w1 ⟨he, rfl⟩; rw [HD.out] at he; subst he))
  refine bodyPost_ret (v := .tuple #[.agg #[.slice gp n gc], .bool true]) (by simp [results, Tryd.results152, go_sem, nc]) rfl ⟨_, rfl, ?_, ?_⟩
  · exact (hs2.setBox ⟨nc, nf, nl, nB⟩ _).base HB.out.size
  · exact (HB.out.trans (hb2.mono HB.out.size)).setCell (by show w.heap.size ≤ w.heap.size; omega) _

end Go.Proofs.YtkppbmfliejnmaaDoor

/- Walks: the reference's draws: paths, loops, graphs by dice. -/
namespace Go.Proofs.YtkppbmfliejnmaaDoor
open Go.RowKit

set_option maxRecDepth 100000 in
set_option maxHeartbeats 4000000 in
theorem specPath_yes (z : Int) (n : Nat) (hz : z = n) (h1 : 1 ≤ n) (hn : n ≤ 16) (w : World) :
    Calls Tryd.prog 255 #[.int .i64 z] w fun e w' => ∃ u, e = .returned (.tuple #[u, .bool true]) ∧ DG w' w.heap.size u (matG n pthE) ∧ Below w.heap.size w w' := by
  subst hz
  obtain ⟨w1, hw1⟩ : ∃ w1, w1 = w.alloc (.cells #[.slice none 0 0] 29) := ⟨_, rfl⟩
  have HR : Hid (Box w1 w.heap.size 29 (.slice none 0 0)) := Lib.hid (by rw [hw1]; exact Box.new _ _ _)
  have HB : Hid (Below w.heap.size w w1) := Lib.hid (by rw [hw1]; exact below_alloc _ _)
  have s1 : w1.heap.size = w.heap.size + 1 := by rw [hw1, size_alloc]
  go_enter Tryd.func255, Tryd.ntmps255
  go_upto_region 1 with fail
  rw [← hw1]
  clear hw1
  go_upto_region 2 with (go_at_call 152; refine (l6Of_yes _ n rfl h1 hn _).mono ?_; rintro e w2 ⟨u, rfl, hs2, hb2⟩; obtain ⟨p, c, rfl⟩ := hs2.shape; rw [List.length_replicate] at hs2 ⊢)
  have START : Hid (LdI w1 (w2.alloc (.cells #[.slice p n c] 29)) w1.heap.size w2.heap.size p c n (matG n (pthTo 1))) := Lib.hid
    ⟨by rw [pthTo_start]; exact hs2.below (below_alloc _ _), hb2.alloc hb2.size _, Box.new _ _ _, hs2.lt, Nat.le_refl _, hb2.size⟩
  generalize w2.heap.size = b5 at START
  clear hs2 hb2
  go_wp2
  go_loopw [6] (fun i wr => ∃ v : Nat, 1 ≤ v ∧ v ≤ n ∧ i = .int .i64 v ∧ Hid (LdI w1 wr w1.heap.size b5 p c n (matG n (pthTo v)))) (fun i _ => n - (intOf i).toNat)
  case atStart => exact ⟨1, Nat.le_refl _, h1, rfl, START⟩
  case round =>
    clear START
    obtain ⟨v, hv1, hvn, rfl, HI⟩ := hrel
    have cb := HI.out.box.cell
    have fb := HI.out.box.free
    by_cases hlt : v < n
    · have hwr : IntKind.i64.wrap ((v : Int) - 1) = (v : Int) - 1 := by rw [IntKind.wrap_i64]; omega
      have hlk := l1LinkD_any p c (matG n (pthTo v)) ((v : Int) - 1) v (v - 1) v w1.heap.size (by omega) rfl (by rw [matG_length]; omega) (by rw [matG_length]; omega) (by omega) (not_mem_matG (by omega) (by unfold pthTo; simp)) (not_mem_matG hlt (by unfold pthTo; simp)) (fun j _ => Nat.le_trans (matG_row_le j) (by omega)) wr (by rw [matG_length]; exact HI.out.dg)
      rw [matG_length, pthTo_step hv1 hlt] at hlk
      have HLK := Lib.hid hlk
      clear hlk
      go_wp2_with (go_at_call 154; refine HLK.out.mono ?_; rintro e w6 ⟨rfl, hs6, hg6⟩; have hbx := HI.out.box.grown hg6 (fun e => by have := (HI.out.own _ e.symm).2; omega); have hc6 := hbx.cell; have hf6 := hbx.free)
      go_roundw
      case rel => exact ⟨v + 1, by omega, by omega, by go_num, Lib.hid (HI.out.link hs6 hg6)⟩
      case measure => simp [intOf]; omega
    · obtain rfl : v = n := by omega
      have HR5 := HR.out.keep HI.out.bel
      obtain ⟨nc, nf, nl, nB⟩ := id HR5
      go_wp2
      refine bodyPost_ret (v := .tuple #[.agg #[.slice p v c], .bool true]) (by simp [results, Tryd.results255, go_sem, nc]) rfl ⟨_, rfl, ?_, ?_⟩
      · have := (HI.out.dg.setBox HR5 (.slice p v c)).base (base' := w.heap.size) (by omega)
        rw [pthTo_end] at this
        exact this
      · exact (HB.out.trans (HI.out.bel.mono HB.out.size)).setCell (by show w.heap.size ≤ w.heap.size; omega) _

def lopE (n : Nat) : Nat → Nat → Bool := fun r j => pthE r j || (r == 0 && j == n - 1) || (r == n - 1 && j == 0)
theorem lopE_symI {n : Nat} (hn : 3 ≤ n) : SymI (lopE n) := ⟨fun r j h => by unfold lopE pthE at *; simp at *; omega, fun r => by unfold lopE pthE; simp; omega⟩

set_option maxRecDepth 100000 in
set_option maxHeartbeats 4000000 in
theorem specLoop_yes (z : Int) (n : Nat) (hz : z = n) (h1 : 3 ≤ n) (hn : n ≤ 16) (w : World) :
    Calls Tryd.prog 254 #[.int .i64 z] w fun e w' => ∃ u, e = .returned (.tuple #[u, .bool true]) ∧ DG w' w.heap.size u (matG n (lopE n)) ∧ Below w.heap.size w w' := by
  subst hz
  obtain ⟨w1, hw1⟩ : ∃ w1, w1 = w.alloc (.cells #[.slice none 0 0] 29) := ⟨_, rfl⟩
  have HR : Hid (Box w1 w.heap.size 29 (.slice none 0 0)) := Lib.hid (by rw [hw1]; exact Box.new _ _ _)
  have HB : Hid (Below w.heap.size w w1) := Lib.hid (by rw [hw1]; exact below_alloc _ _)
  have s1 : w1.heap.size = w.heap.size + 1 := by rw [hw1, size_alloc]
  go_enter Tryd.func254, Tryd.ntmps254
  go_upto_region 1 with fail
  rw [← hw1]
  clear hw1
  go_upto_region 2 with (go_at_call 255; refine (specPath_yes _ n rfl (by omega) hn _).mono ?_; rintro e w2 ⟨u, rfl, hs2, hb2⟩; obtain ⟨p, c, rfl⟩ := hs2.shape; rw [matG_length] at hs2 ⊢)
  have HI : Hid (LdI w1 (w2.alloc (.cells #[.slice p n c] 29)) w1.heap.size w2.heap.size p c n (matG n pthE)) := Lib.hid
    ⟨hs2.below (below_alloc _ _), hb2.alloc hb2.size _, Box.new _ _ _, hs2.lt, Nat.le_refl _, hb2.size⟩
  obtain ⟨wr, hwr0⟩ : ∃ wr, wr = w2.alloc (.cells #[.slice p n c] 29) := ⟨_, rfl⟩
  rw [← hwr0] at HI ⊢
  generalize w2.heap.size = b5 at *
  clear hs2 hb2 hwr0
  have cb := HI.out.box.cell
  have fb := HI.out.box.free
  have hwr : IntKind.i64.wrap ((n : Int) - 1) = (n : Int) - 1 := by rw [IntKind.wrap_i64]; omega
  have hlk := l1LinkD_any p c (matG n pthE) 0 ((n : Int) - 1) 0 (n - 1) w1.heap.size rfl (by omega) (by rw [matG_length]; omega) (by rw [matG_length]; omega) (by omega) (not_mem_matG (by omega) (by unfold pthE; simp; omega)) (not_mem_matG (by omega) (by unfold pthE; simp; omega)) (fun j _ => Nat.le_trans (matG_row_le j) (by omega)) wr (by rw [matG_length]; exact HI.out.dg)
  rw [matG_length, link_matG (by omega) (by omega) (by omega)] at hlk
  have HLK := Lib.hid hlk
  clear hlk
  go_wp2_with (go_at_call 154; refine HLK.out.mono ?_; rintro e w6 ⟨rfl, hs6, hg6⟩; have HI6 := Lib.hid (HI.out.link hs6 hg6); have HR6 := Lib.hid ((HR.out.keep HI.out.bel).grown hg6 (fun e => by have := (HI.out.own _ e.symm).1; have := HI.out.hb; have := HB.out.size; omega)); have hcr := HR6.out.cell; have hfr := HR6.out.free)
  refine bodyPost_ret (v := .tuple #[.agg #[.slice p n c], .bool true]) (by simp [results, Tryd.results254, go_sem, hcr]) rfl ⟨_, rfl, ?_, ?_⟩
  · exact (hs6.setBox HR6.out _).base (by omega)
  · exact ((HB.out.trans (HI.out.bel.mono HB.out.size)).grown hg6 (Nat.le_trans HB.out.size HI.out.bel.size) (fun k hk => by have := (HI.out.own k hk).1; omega)).setCell (by show w.heap.size ≤ w.heap.size; omega) _

end Go.Proofs.YtkppbmfliejnmaaDoor

/- Walks: the reference's draws: a graph by dice (l1DrawOf), one of several kinds (l1Draw). -/
namespace Go.Proofs.YtkppbmfliejnmaaDoor
open Go.RowKit

theorem grown_over {w wr w2 : World} {r : Option Nat} {q : Option Nat} (h : w.grownBy wr r) (hg : wr.grownBy w2 q) (hq : ∀ k, q = some k → w.heap.size ≤ k) : w.grownBy w2 r :=
  ⟨hg.os.trans h.os, hg.tape.trans h.tape, hg.output.trans h.output, Nat.le_trans h.size hg.size, fun k hk hne => (hg.block k (Nat.lt_of_lt_of_le hk h.size) (fun e => by have := hq k e.symm; omega)).trans (h.block k hk hne)⟩
theorem grown_newD {w w' : World} {r : Option Nat} (h : w.grownBy w' r) {b i : Nat} (hb : w.heap.size ≤ b) (u : Value) : w.grownBy (w'.setCell ⟨b, i, none⟩ u) r :=
  ⟨h.os, h.tape, h.output, by rw [World.size_setCell]; exact h.size, fun k hk hne => (Below.heap_setCell _ _ _ _ (by show k ≠ b; omega)).trans (h.block k hk hne)⟩
theorem Cur.cb_lt {w0 w : World} {cb : Nat} {bs : List Int} (h : Cur w0 w cb bs) : cb < w.heap.size := by
  obtain ⟨_, _, _, h1, _⟩ := h.ex
  exact h1.lt
/-- The cursor while blocks behind it are written. -/
theorem Cur.over {w0 wr w2 : World} {cb : Nat} {bs : List Int} {q : Option Nat} (h : Cur w0 wr cb bs) (hg : wr.grownBy w2 q) (hq : ∀ k, q = some k → cb < k) : Cur w0 w2 cb bs := by
  obtain ⟨bv, i, z, h1, h2, h3⟩ := h.ex
  exact ⟨⟨bv, i, z, h1.to (hg.block cb h1.lt (fun e => by have := hq cb e.symm; omega)), h2, h3⟩, h.few, h.lo, h.bel.grown hg h.bel.size (fun k hk => by have := hq k hk; have := h.lo; omega)⟩
theorem Cur.setCell {w0 wr : World} {cb : Nat} {bs : List Int} (h : Cur w0 wr cb bs) {b i : Nat} (hb : cb < b) (u : Value) : Cur w0 (wr.setCell ⟨b, i, none⟩ u) cb bs := by
  obtain ⟨bv, k, z, h1, h2, h3⟩ := h.ex
  exact ⟨⟨bv, k, z, h1.to (Below.heap_setCell _ _ _ _ (by show cb ≠ b; omega)), h2, h3⟩, h.few, h.lo, h.bel.setCell (by show w0.heap.size ≤ b; have := h.lo; omega) _⟩

/-- A graph that grows beside the cursor. -/
structure DoI (w0 w wr : World) (cb : Nat) (bs : List Int) (b5 : Nat) (p : Option Addr) (c n : Nat) (E : Nat → Nat → Bool) : Prop where
  dg : DG wr (w.heap.size + 1) (.agg #[.slice p n c]) (matG n E)
  cur : Cur w0 wr cb bs
  gr : w.grownBy wr (some cb)
  box : Box wr b5 29 (.slice p n c)
  res : Box wr w.heap.size 29 (.slice none 0 0)
  own : ∀ k, (Value.slice p n c).ownBlock = some k → w.heap.size + 1 ≤ k ∧ k < b5
  hcb : cb < w.heap.size
  b5 : w.heap.size + 1 ≤ b5
theorem DoI.throw {w0 w wr w2 : World} {cb : Nat} {bs : List Int} {b5 : Nat} {p : Option Addr} {c n : Nat} {E : Nat → Nat → Bool} (h : DoI w0 w wr cb bs b5 p c n E) (hc : Cur w0 w2 cb bs) (hg : wr.grownBy w2 (some cb)) : DoI w0 w w2 cb bs b5 p c n E :=
  ⟨h.dg.cured h.cur hg, hc, grown_trans h.gr hg, h.box.cured h.cur hg (by decide), h.res.cured h.cur hg (by decide), h.own, h.hcb, h.b5⟩
theorem DoI.link {w0 w wr w2 : World} {cb : Nat} {bs : List Int} {b5 : Nat} {p : Option Addr} {c n : Nat} {E E' : Nat → Nat → Bool} (h : DoI w0 w wr cb bs b5 p c n E) (hs : DG w2 (w.heap.size + 1) (.agg #[.slice p n c]) (matG n E')) (hg : wr.grownBy w2 (Value.slice p n c).ownBlock) :
    DoI w0 w (w2.setCell ⟨b5, 0, none⟩ (.slice p n c)) cb bs b5 p c n E' := by
  have hbox := h.box.grown hg (fun e => by have := (h.own b5 e.symm).2; omega)
  have hres := h.res.grown hg (fun e => by have := (h.own _ e.symm).1; omega)
  have hcb := h.hcb
  have hb5 := h.b5
  exact ⟨hs.setBox hbox _, (h.cur.over hg fun k hk => by have := (h.own k hk).1; omega).setCell (by omega) _, grown_newD (grown_over h.gr hg fun k hk => by have := (h.own k hk).1; omega) (by omega) _, hbox.set _, hres.setOther (by show w.heap.size ≠ b5; omega) _, h.own, h.hcb, h.b5⟩

set_option maxRecDepth 100000 in
set_option maxHeartbeats 8000000 in
theorem l1DrawOf_any (w0 : World) (cb : Nat) (bs : List Int) (z : Int) (n : Nat) (hz : z = n) (hn1 : 1 ≤ n) (hn : n ≤ 16) (w : World) (hc : Cur w0 w cb bs) :
    Calls Tryd.prog 199 #[.pointer (some ⟨cb, 0, none⟩), .int .i64 z] w fun e w' => ∃ (u : Value) (E : Nat → Nat → Bool), e = .returned u ∧ SymI E ∧ DG w' w.heap.size u (matG n E) ∧ Cur w0 w' cb bs ∧ w.grownBy w' (some cb) := by
  subst hz
  have hcb := hc.cb_lt
  obtain ⟨w1, hw1⟩ : ∃ w1, w1 = w.alloc (.cells #[.slice none 0 0] 29) := ⟨_, rfl⟩
  have HR : Hid (Box w1 w.heap.size 29 (.slice none 0 0)) := Lib.hid (by rw [hw1]; exact Box.new _ _ _)
  have HB : Hid (Below w.heap.size w w1) := Lib.hid (by rw [hw1]; exact below_alloc _ _)
  have s1 : w1.heap.size = w.heap.size + 1 := by rw [hw1, size_alloc]
  have HC1 := Lib.hid (hc.keep HB.out)
  clear hc
  go_enter Tryd.func199, Tryd.ntmps199
  go_upto_region 1 with fail
  rw [← hw1]
  clear hw1
  go_upto_region 2 with (go_at_call 157; refine (l1EmptyD_any _ n rfl (by omega) _).mono ?_; rintro e w2 ⟨u, rfl, hs2, hb2⟩; obtain ⟨p, c, rfl⟩ := hs2.shape; rw [List.length_replicate] at hs2 ⊢)
  have hempty : matG n (fun _ _ => false) = List.replicate n [] := matG_none n fun _ _ _ _ => rfl
  rw [← hempty, s1] at hs2
  have hb13 : Below w1.heap.size w1 (w2.alloc (.cells #[.slice p n c] 29)) := hb2.alloc hb2.size _
  have START : Hid (DoI w0 w (w2.alloc (.cells #[.slice p n c] 29)) cb bs w2.heap.size p c n (fun _ _ => false)) := Lib.hid
    ⟨hs2.below (below_alloc _ _), HC1.out.keep hb13, grown_of_below (HB.out.trans (hb13.mono HB.out.size)) _, Box.new _ _ _, HR.out.keep hb13, hs2.lt, hcb, by have := hb2.size; omega⟩
  obtain ⟨w3, hw3⟩ : ∃ w3, w3 = w2.alloc (.cells #[.slice p n c] 29) := ⟨_, rfl⟩
  rw [← hw3] at START ⊢
  generalize w2.heap.size = b5 at *
  clear hs2 hb2 hb13 hempty hw3 HC1 HB HR
  go_upto_region 3 with (go_at_call 148; refine (l1Below_any w0 cb bs 3 (by decide) _ START.out.cur).mono ?_; rintro e w4 ⟨of, rfl, hof, _, hc2, hg2⟩; have HI4 := Lib.hid (START.out.throw hc2 hg2); have hof3 := hof (by decide); clear hof hc2 hg2)
  clear START
  go_wp2
  go_loopw [7] (fun i wr => ∃ (v : Nat) (E : Nat → Nat → Bool), 1 ≤ v ∧ v ≤ n ∧ i = .int .i64 v ∧ Hid (SymI E ∧ ∀ r j, E r j = true → max r j < v) ∧ Hid (DoI w0 w wr cb bs b5 p c n E)) (fun i _ => n - (intOf i).toNat)
  case atStart => exact ⟨1, _, Nat.le_refl _, hn1, rfl, Lib.hid ⟨symI_none, fun r j h => by cases h⟩, HI4⟩
  case round =>
    clear HI4
    obtain ⟨v, E, hv1, hvn, rfl, HE, HI⟩ := hrel
    by_cases hlt : v < n
    · go_wp2
      go_loopw [8] (fun i wr => ∃ (u : Nat) (E : Nat → Nat → Bool), u ≤ v ∧ i = .int .i64 u ∧ Hid (SymI E ∧ ∀ r j, E r j = true → max r j < v ∨ (max r j = v ∧ min r j < u)) ∧ Hid (DoI w0 w wr cb bs b5 p c n E)) (fun i _ => v - (intOf i).toNat)
      case atStart => exact ⟨0, E, Nat.zero_le _, rfl, Lib.hid ⟨HE.out.1, fun r j h => .inl (HE.out.2 r j h)⟩, HI⟩
      case round =>
        clear HE HI
        obtain ⟨u, E, huv, rfl, HE, HI⟩ := hrel
        by_cases hlt2 : u < v
        · go_upto_if 27 with (go_at_call 148; refine (l1Below_any w0 cb bs 4 (by decide) _ HI.out.cur).mono ?_; rintro e w6 ⟨r, rfl, _, _, hc2, hg2⟩; have HI6 := Lib.hid (HI.out.throw hc2 hg2); clear hc2 hg2)
          by_cases hr : (r : Int) < 1 + (of : Int)
          · have cb5 := HI6.out.box.cell
            have fb5 := HI6.out.box.free
            have hEuv : E u v = false := by
              cases h : E u v with
              | false => rfl
              | true => have := HE.out.2 u v h; omega
            have hEvu : E v u = false := by
              cases h : E v u with
              | false => rfl
              | true => have := HE.out.2 v u h; omega
            have hlk := l1LinkD_any p c (matG n E) u v u v (w.heap.size + 1) rfl rfl (by rw [matG_length]; omega) (by rw [matG_length]; omega) (by omega) (not_mem_matG (by omega) hEuv) (not_mem_matG (by omega) hEvu) (fun j _ => Nat.le_trans (matG_row_le j) (by omega)) w6 (by rw [matG_length]; exact HI6.out.dg)
            rw [matG_length, link_matG (by omega) (by omega) (by omega)] at hlk
            have HLK := Lib.hid hlk
            have HSN := Lib.hid (symI_link HE.out.1 (show u ≠ v by omega))
            have HSM : Hid (∀ r j, (E r j || (r == u && j == v) || (r == v && j == u)) = true → max r j < v ∨ (max r j = v ∧ min r j < u + 1)) := Lib.hid (fun r j h => by
              simp only [Bool.or_eq_true, Bool.and_eq_true, beq_iff_eq] at h
              rcases h with (h | h) | h
              · have := HE.out.2 r j h; omega
              · omega
              · omega)
            clear hlk hEuv hEvu
            go_wp2_with (go_at_call 154; refine HLK.out.mono ?_; rintro e w7 ⟨rfl, hs6, hg6⟩; have hbx := HI6.out.box.grown hg6 (fun e => by have := (HI6.out.own _ e.symm).2; omega); have hc6 := hbx.cell; have hf6 := hbx.free)
            go_roundw
            case rel => exact ⟨u + 1, _, by omega, by go_num, Lib.hid ⟨HSN.out, HSM.out⟩, Lib.hid (HI6.out.link hs6 hg6)⟩
            case measure => simp [intOf]; omega
          · go_wp2
            go_roundw
            case rel => exact ⟨u + 1, E, by omega, by go_num, Lib.hid ⟨HE.out.1, fun r j h => by have := HE.out.2 r j h; omega⟩, HI6⟩
            case measure => simp [intOf]; omega
        · obtain rfl : u = v := by omega
          go_wp2
          go_roundw
          case rel => exact ⟨u + 1, E, by omega, by omega, by go_num, Lib.hid ⟨HE.out.1, fun r j h => by have := HE.out.2 r j h; omega⟩, HI⟩
          case measure => simp [intOf]; omega
    · obtain rfl : v = n := by omega
      have cb5 := HI.out.box.cell
      obtain ⟨nc, nf, nl, nB⟩ := id HI.out.res
      go_wp2
      refine bodyPost_ret (v := .agg #[.slice p v c]) (by simp [results, Tryd.results199, go_sem, nc]) rfl ⟨_, E, rfl, HE.out.1, ?_, ?_, ?_⟩
      · exact (HI.out.dg.setBox HI.out.res _).base (by omega)
      · exact HI.out.cur.setCell hcb _
      · exact grown_newD HI.out.gr (Nat.le_refl _) _

end Go.Proofs.YtkppbmfliejnmaaDoor

/- Walks: the reference's draws: a graph of one of several kinds (l1Draw; printed by wip/mkDr.py). -/
namespace Go.Proofs.YtkppbmfliejnmaaDoor
open Go.RowKit

set_option maxRecDepth 100000 in
set_option maxHeartbeats 8000000 in
theorem l1Draw_any (w0 : World) (cb : Nat) (bs : List Int) (w : World) (hc : Cur w0 w cb bs) :
    Calls Tryd.prog 236 #[.pointer (some ⟨cb, 0, none⟩)] w fun e w' => ∃ (u : Value) (n : Nat) (E : Nat → Nat → Bool), e = .returned u ∧ 1 ≤ n ∧ n ≤ 7 ∧ SymI E ∧ DG w' w.heap.size u (matG n E) ∧ Cur w0 w' cb bs ∧ w.grownBy w' (some cb) := by
  have hcb := hc.cb_lt
  obtain ⟨w1, hw1⟩ : ∃ w1, w1 = w.alloc (.cells #[.slice none 0 0] 29) := ⟨_, rfl⟩
  have HR : Hid (Box w1 w.heap.size 29 (.slice none 0 0)) := Lib.hid (by rw [hw1]; exact Box.new _ _ _)
  have HB : Hid (Below w.heap.size w w1) := Lib.hid (by rw [hw1]; exact below_alloc _ _)
  have s1 : w1.heap.size = w.heap.size + 1 := by rw [hw1, size_alloc]
  have HC1 := Lib.hid (hc.keep HB.out)
  clear hc
  go_enter Tryd.func236, Tryd.ntmps236
  go_upto_region 1 with fail
  rw [← hw1]
  clear hw1
  go_cut [8] (fun v wx => ∃ k : Nat, v = .int .i64 (k : Int) ∧ k < 6 ∧ Cur w0 wx cb bs ∧ w1.grownBy wx (some cb))
  case first =>
    go_wp2_with (go_at_call 148; refine (l1Below_any w0 cb bs 6 (by decide) _ HC1.out).mono ?_; rintro e w2 ⟨k, rfl, hk, _, hc2, hg2⟩; have hk6 := hk (by decide))
    go_meet
    exact ⟨k, rfl, by omega, hc2, hg2⟩
  case rest =>
  obtain ⟨k, rfl, hk, hc2, hg2⟩ := hcut
  have HC2 := Lib.hid hc2
  have HG2 := Lib.hid hg2
  have HR2 := Lib.hid (HR.out.cured HC1.out hg2 (by decide))
  have s2 := hg2.size
  clear hc2 hg2 HC1 HR
  by_cases hk0 : k = 0
  · subst hk0
    go_upto_region 4 with (first
      | (go_at_call 254; refine (specLoop_yes _ (3 + r) (by omega) (by omega) (by omega) _).mono ?_; rintro e w4 ⟨u, rfl, hs, hb4⟩; obtain ⟨p, c, rfl⟩ := hs.shape; rw [matG_length] at hs ⊢)
      | (go_at_call 148; refine (l1Below_any w0 cb bs 4 (by decide) _ HC2.out).mono ?_; rintro e w3 ⟨r, rfl, hr, _, hc3, hg3⟩; have HC3 := Lib.hid hc3; have HG3 := Lib.hid (grown_trans HG2.out hg3); have HR3 := Lib.hid (HR2.out.cured HC2.out hg3 (by decide)); have s3 := hg3.size; have hr4 := hr (by decide); (have hwr : IntKind.i64.wrap ((3 : Int) + (r : Int)) = (3 : Int) + (r : Int) := (by rw [IntKind.wrap_i64]; omega)); clear hr hc3 hg3))
    obtain ⟨w5, hw5⟩ : ∃ w5, w5 = w4.alloc (.cells #[.slice p (3 + r) c] 29) := ⟨_, rfl⟩
    rw [← hw5]
    have hb45 : Below w4.heap.size w4 w5 := by rw [hw5]; exact below_alloc _ _
    have hb35 := Lib.hid (hb4.trans (hb45.mono hb4.size))
    have HBX : Hid (Box w5 w4.heap.size 29 (.slice p (3 + r) c)) := Lib.hid (by rw [hw5]; exact Box.new _ _ _)
    have HS5 := Lib.hid (hs.below hb45)
    have HR5 := Lib.hid (HR3.out.keep hb35.out)
    have cx := HBX.out.cell
    generalize w4.heap.size = b5 at *
    obtain ⟨nc, nf, nl, nB⟩ := id HR5.out
    clear hw5 hb45 hb4 hs
    go_wp2
    refine bodyPost_ret (v := .agg #[.slice p (3 + r) c]) (by simp [results, Tryd.results236, go_sem, nc]) rfl ⟨_, 3 + r, _, rfl, by omega, by omega, lopE_symI (n := 3 + r) (by omega), ?_, ?_, ?_⟩
    · exact (HS5.out.setBox HR5.out _).base (by omega)
    · exact (HC3.out.keep hb35.out).setCell hcb _
    · exact grown_newD (grown_trans (grown_of_below HB.out _) (grown_trans HG3.out (grown_of_below hb35.out _))) (Nat.le_refl _) _
  · by_cases hk1 : k = 1
    · subst hk1
      go_upto_region 7 with (first
        | (go_at_call 255; refine (specPath_yes _ (1 + r) (by omega) (by omega) (by omega) _).mono ?_; rintro e w4 ⟨u, rfl, hs, hb4⟩; obtain ⟨p, c, rfl⟩ := hs.shape; rw [matG_length] at hs ⊢)
        | (go_at_call 148; refine (l1Below_any w0 cb bs 6 (by decide) _ HC2.out).mono ?_; rintro e w3 ⟨r, rfl, hr, _, hc3, hg3⟩; have HC3 := Lib.hid hc3; have HG3 := Lib.hid (grown_trans HG2.out hg3); have HR3 := Lib.hid (HR2.out.cured HC2.out hg3 (by decide)); have s3 := hg3.size; have hr4 := hr (by decide); (have hwr : IntKind.i64.wrap ((1 : Int) + (r : Int)) = (1 : Int) + (r : Int) := (by rw [IntKind.wrap_i64]; omega)); clear hr hc3 hg3))
      obtain ⟨w5, hw5⟩ : ∃ w5, w5 = w4.alloc (.cells #[.slice p (1 + r) c] 29) := ⟨_, rfl⟩
      rw [← hw5]
      have hb45 : Below w4.heap.size w4 w5 := by rw [hw5]; exact below_alloc _ _
      have hb35 := Lib.hid (hb4.trans (hb45.mono hb4.size))
      have HBX : Hid (Box w5 w4.heap.size 29 (.slice p (1 + r) c)) := Lib.hid (by rw [hw5]; exact Box.new _ _ _)
      have HS5 := Lib.hid (hs.below hb45)
      have HR5 := Lib.hid (HR3.out.keep hb35.out)
      have cx := HBX.out.cell
      generalize w4.heap.size = b5 at *
      obtain ⟨nc, nf, nl, nB⟩ := id HR5.out
      clear hw5 hb45 hb4 hs
      go_wp2
      refine bodyPost_ret (v := .agg #[.slice p (1 + r) c]) (by simp [results, Tryd.results236, go_sem, nc]) rfl ⟨_, 1 + r, _, rfl, by omega, by omega, pthE_symI, ?_, ?_, ?_⟩
      · exact (HS5.out.setBox HR5.out _).base (by omega)
      · exact (HC3.out.keep hb35.out).setCell hcb _
      · exact grown_newD (grown_trans (grown_of_below HB.out _) (grown_trans HG3.out (grown_of_below hb35.out _))) (Nat.le_refl _) _
    · have hk0' : ((k : Int) == 0) = false := beq_eq_false_iff_ne.2 (by omega)
      have hk1' : ((k : Int) == 1) = false := beq_eq_false_iff_ne.2 (by omega)
      obtain ⟨rc, rf, _, _⟩ := id HR2.out
      go_wp2_with (first
        | (go_at_call 199; refine (l1DrawOf_any w0 cb bs _ (1 + r) (by omega) (by omega) (by omega) _ HC3.out).mono ?_; rintro e w4 ⟨u, E, rfl, hse, hs, hc4, hg4⟩; have HSE := Lib.hid hse; obtain ⟨p, c, rfl⟩ := hs.shape; rw [matG_length] at hs ⊢; have HS4 := Lib.hid hs; have HC4 := Lib.hid hc4; have HG4 := Lib.hid (grown_trans HG3.out hg4); have HR4 := Lib.hid (HR3.out.cured HC3.out hg4 (by decide)); obtain ⟨nc, nf, nl, nB⟩ := id HR4.out; clear hse hs hc4 hg4)
        | (go_at_call 148; refine (l1Below_any w0 cb bs 7 (by decide) _ HC2.out).mono ?_; rintro e w3 ⟨r, rfl, hr, _, hc3, hg3⟩; have HC3 := Lib.hid hc3; have HG3 := Lib.hid (grown_trans HG2.out hg3); have HR3 := Lib.hid (HR2.out.cured HC2.out hg3 (by decide)); have s3 := hg3.size; have hr4 := hr (by decide); (have hwr : IntKind.i64.wrap ((1 : Int) + (r : Int)) = (1 : Int) + (r : Int) := (by rw [IntKind.wrap_i64]; omega)); clear hr hc3 hg3))
      refine bodyPost_ret (v := .agg #[.slice p (1 + r) c]) (by simp [results, Tryd.results236, go_sem, nc]) rfl ⟨_, 1 + r, E, rfl, by omega, by omega, HSE.out, ?_, ?_, ?_⟩
      · exact (HS4.out.setBox HR4.out _).base (by omega)
      · exact HC4.out.setCell hcb _
      · exact grown_newD (grown_trans (grown_of_below HB.out _) HG4.out) (Nat.le_refl _) _

end Go.Proofs.YtkppbmfliejnmaaDoor
