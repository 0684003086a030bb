/- Walks: linking two vertices in a graph that is the callee's own. -/
import Derived.Test.YtjdlmjmhlbpooaaDoorBwQ14
import Derived.Deep.RegionLaw
import Derived.Test.YtjdlmjmhlbpooaaDoorBwQ13
import Derived.Test.YtjdlmjmhlbpooaaDoorBwQ15
import Derived.Test.YtjdlmjmhlbpooaaDoorBwQ6
namespace Go.Proofs.YtjdlmjmhlbpooaaDoor
open Go.RowKit

theorem get_getD {α : Type} (l : List α) (k : Nat) (d : α) (h : k < l.length) : l[k]? = some (l.getD k d) := by simp [h]

structure LK (w wr : World) (base ob c : Nat) (g : List (List Int)) (vals : List Value) : Prop where
  len : vals.length = g.length
  own : wr.ownsRow base 26 1 (.slice (some ⟨ob, 0, none⟩) g.length c) g.length vals
  rows : ∀ j, j < g.length → Nums wr 2 .i64 (vals.getD j undef) (row g j)
  box : Box wr w.heap.size 29 (.slice (some ⟨ob, 0, none⟩) g.length c)
  res : Box wr (w.heap.size + 1) 29 (.slice none 0 0)
  grown : w.grownBy wr (some ob)
  lt : ob < w.heap.size

theorem LK.step {w wr w2 : World} {base ob c : Nat} {g : List (List Int)} {vals : List Value} (h : LK w wr base ob c g vals) (hb : Below wr.heap.size wr w2) {rv : Value} {s : List Int} (hn : Nums w2 2 .i64 rv s) {u : Nat} (hu : u < g.length) :
    LK w (w2.setCell ⟨ob, u, none⟩ rv) base ob c (g.set u s) (vals.set u rv) := by
  have ho := ownsRow_below h.own hb
  obtain ⟨ho2, hg2⟩ := ho.stored u rv
  have hl := h.lt
  refine ⟨by simp [h.len], by rw [List.length_set]; exact ho2, fun j hj => ?_, ?_, ?_, grown_trans (grown_trans h.grown (grown_of_below hb _)) hg2, hl⟩
  · rw [List.length_set] at hj
    rw [row_set _ _ _ _ hu]
    by_cases e : j = u
    · subst e
      rw [if_pos rfl]
      have : (vals.set j rv).getD j undef = rv := by simp [h.len, hj]
      rw [this]
      exact hn.other ho hg2 (by decide)
    · rw [if_neg e]
      have : (vals.set u rv).getD j undef = vals.getD j undef := by simp [show ¬ u = j from fun q => e q.symm]
      rw [this]
      exact ((h.rows j hj).below hb).other ho hg2 (by decide)
  · rw [List.length_set]
    exact (h.box.keep hb).setOther (by show w.heap.size ≠ ob; omega) _
  · exact (h.res.keep hb).setOther (by show w.heap.size + 1 ≠ ob; omega) _

set_option maxRecDepth 100000 in
set_option maxHeartbeats 4000000 in
theorem l1Link_any (p : Option Addr) (c : Nat) (g : List (List Int)) (y z : Int) (u k base : Nat) (hy : y = u) (hz : z = k) (hu : u < g.length) (hk : k < g.length) (hr : ∀ j, j < g.length → (row g j).length ≤ 1000) (w : World)
    (hs : SG w base (.agg #[.slice p g.length c]) g) :
    Calls Tryd.prog 120 #[.agg #[.slice p g.length c], .int .i64 y, .int .i64 z] w fun e w' => e = .returned (.agg #[.slice p g.length c]) ∧ SG w' base (.agg #[.slice p g.length c]) (linkL g u k) ∧ w.grownBy w' (Value.slice p g.length c).ownBlock := by
  subst hy; subst hz
  obtain ⟨_, vals, h1, hl, ho, hrows⟩ := hs
  cases h1
  obtain ⟨ob, rfl⟩ : ∃ ob, p = some ⟨ob, 0, none⟩ := by
    rcases ho.2 with ⟨_, h0⟩ | ⟨b, cc, _, h1, _⟩
    · omega
    · simp only [Value.slice.injEq] at h1
      exact ⟨b, h1.1⟩
  have hlt := (ho.lt ob rfl).2
  have hbb := below_alloc2 w (.cells #[.slice (some ⟨ob, 0, none⟩) g.length c] 29) (.cells #[.slice none 0 0] 29)
  have START : Hid (LK w ((w.alloc (.cells #[.slice (some ⟨ob, 0, none⟩) g.length c] 29)).alloc (.cells #[.slice none 0 0] 29)) base ob c g vals) := Lib.hid
    ⟨hl, ownsRow_below ho hbb, fun j hj => (hrows j hj).below hbb, (Box.new _ _ _).alloc _, by have := Box.new (w.alloc (.cells #[.slice (some ⟨ob, 0, none⟩) g.length c] 29)) (.slice none 0 0) 29; rw [size_alloc] at this; exact this, grown_of_below hbb _, hlt⟩
  have HR := Lib.hid hr
  clear hl ho hrows hbb hr
  go_enter Tryd.func120, Tryd.ntmps120
  go_upto_region 1 with fail
  generalize hW : (w.alloc (.cells #[.slice (some ⟨ob, 0, none⟩) g.length c] 29)).alloc (.cells #[.slice none 0 0] 29) = W at *
  clear hW
  obtain ⟨bc, bf, _, _⟩ := START.out.box
  obtain ⟨rp, rc, hrs, _⟩ := (START.out.rows u hu).shape
  have hcu := START.out.own.cellAt u (by omega)
  have hv0 := get_getD vals u undef (by rw [START.out.len]; exact hu)
  rw [hv0, hrs] at hcu
  have hnu := Lib.hid (START.out.rows u hu)
  rw [hrs] at hnu
  have hru := HR.out u hu
  clear hv0 hrs
  go_cut [] (fun wx => ∃ rv, LK w wx base ob c (g.set u (intoL (row g u) k)) (vals.set u rv))
  case first =>
    go_region_law (first | (go_simp; go_at_call 134; refine (l1Into_any _ (row g u) k (by omega) _ (hnu.out.below (below_dN (Below.refl _ _) 1))).mono ?_; rintro e w2 ⟨rv, rfl, hn2, hb2⟩; obtain ⟨rvp, rvc, rfl, _⟩ := hn2.shape; have hb2' : Below W.heap.size W w2 := (below_dN (Below.refl _ _) 1).trans hb2; have hf2 := (ownsRow_below START.out.own hb2').frozenAt u; have hc2 := hb2'.at' hcu; have hbc2 := hb2'.at' bc))
    all_goals go_wp2
    all_goals go_meet
    all_goals exact ⟨_, START.out.step hb2' hn2 hu⟩
  case rest =>
    obtain ⟨rv0, hlk⟩ := hcut
    have HL := Lib.hid hlk
    have hk' : k < (g.set u (intoL (row g u) k)).length := by simpa using hk
    obtain ⟨bc, bf, _, _⟩ := hlk.box
    obtain ⟨rp, rc, hrs, _⟩ := (hlk.rows k hk').shape
    have hcu := hlk.own.cellAt k (by omega)
    have hv0 := get_getD (vals.set u rv0) k undef (by rw [hlk.len]; exact hk')
    rw [hv0, hrs] at hcu
    have hnu := Lib.hid (hlk.rows k hk')
    rw [hrs] at hnu
    have hl1 : (g.set u (intoL (row g u) k)).length = g.length := by simp
    have hru : (row (g.set u (intoL (row g u) k)) k).length ≤ 2000 := by
      rw [row_set _ _ _ _ hu]
      split
      · have := intoL_length (row g u) k; have := HR.out u hu; omega
      · have := HR.out k hk; omega
    rw [hl1] at bc
    clear hv0 hrs hlk
    generalize hr1 : row (g.set u (intoL (row g u) k)) k = r1 at hru hcu hnu
    go_upto_region 2 with fail
    go_cut [] (fun wx => ∃ rv, LK w wx base ob c (linkL g u k) ((vals.set u rv0).set k rv))
    case first =>
      go_region_law (first | (go_simp; go_at_call 134; refine (l1Into_any _ r1 u (by omega) _ (hnu.out.below (below_dN (Below.refl _ _) 1))).mono ?_; rintro e w2 ⟨rv, rfl, hn2, hb2⟩; obtain ⟨rvp, rvc, rfl, _⟩ := hn2.shape; have hb2' : Below wc.heap.size wc w2 := (below_dN (Below.refl _ _) 1).trans hb2; have hf2 := (ownsRow_below HL.out.own hb2').frozenAt k; have hc2 := hb2'.at' hcu; have hbc2 := hb2'.at' bc))
      all_goals go_wp2
      all_goals go_meet
      all_goals exact ⟨_, by rw [show linkL g u k = (g.set u (intoL (row g u) k)).set k (intoL r1 u) from by unfold linkL; rw [hr1]]; exact HL.out.step hb2' hn2 hk'⟩
    case rest =>
      obtain ⟨rv1, hlk⟩ := hcut
      have HL2 := Lib.hid hlk
      obtain ⟨bc, bf, _, _⟩ := hlk.box
      obtain ⟨k2c, k2f, _⟩ := hlk.res
      rw [linkL_length] at bc
      clear hlk
      go_wp2
      refine bodyPost_ret (v := .agg #[.slice (some ⟨ob, 0, none⟩) g.length c]) (by simp [results, Tryd.results120, go_sem, k2c]) rfl ⟨rfl, ⟨_, _, rfl, HL2.out.len, ?_, fun j hj => ?_⟩, ?_⟩
      · exact ownsRow_setBox (by have := HL2.out.own; rw [linkL_length] at this ⊢; exact this) HL2.out.res (by decide) _
      · exact (HL2.out.rows j hj).setBox HL2.out.res (by decide) _
      · have hlt' := HL2.out.lt
        refine ⟨HL2.out.grown.os, HL2.out.grown.tape, HL2.out.grown.output, by have := HL2.out.grown.size; simpa [World.setCell] using this, fun b hb hne => ?_⟩
        rw [Below.heap_setCell _ _ _ _ (by show b ≠ w.heap.size + 1; omega)]
        exact HL2.out.grown.block b hb hne

end Go.Proofs.YtjdlmjmhlbpooaaDoor

/- Walks: the reference's graph of some listed vertices. -/
namespace Go.Proofs.YtjdlmjmhlbpooaaDoor
open Go.RowKit

theorem SG.setBox {w : World} {base b : Nat} {v x : Value} {g : List (List Int)} (h : SG w base v g) (hb : Box w b 29 x) (u : Value) : SG (w.setCell ⟨b, 0, none⟩ u) base v g := by
  obtain ⟨u0, vals, h1, h2, h3, h4⟩ := h
  exact ⟨u0, vals, h1, h2, ownsRow_setBox h3 hb (by decide) _, fun j hj => (h4 j hj).setBox hb (by decide) _⟩
theorem SG.base {w : World} {base base' : Nat} {v : Value} {g : List (List Int)} (h : SG w base v g) (hb : base' ≤ base) : SG w base' v g := by
  obtain ⟨u0, vals, h1, h2, h3, h4⟩ := h
  exact ⟨u0, vals, h1, h2, ownsRow_base h3 hb, h4⟩
theorem SG.lt {w : World} {base : Nat} {u : Value} {g : List (List Int)} (h : SG w base (.agg #[u]) g) : ∀ k, u.ownBlock = some k → base ≤ k ∧ k < w.heap.size := by
  obtain ⟨u0, vals, h1, h2, h3, h4⟩ := h
  cases h1
  exact fun k hk => h3.lt k hk

structure L2I (W0 wr : World) (b5 : Nat) (p : Option Addr) (c m : Nat) (gg : List (List Int)) : Prop where
  sg : SG wr W0.heap.size (.agg #[.slice p m c]) gg
  bel : Below W0.heap.size W0 wr
  box : Box wr b5 29 (.slice p m c)
  own : ∀ k, (Value.slice p m c).ownBlock = some k → W0.heap.size ≤ k ∧ k < b5
  b5 : W0.heap.size ≤ b5

theorem L2I.next {W0 wr wx : World} {b5 : Nat} {p : Option Addr} {c m : Nat} {gg : List (List Int)} (h : L2I W0 wr b5 p c m gg) (hb : Below wr.heap.size wr wx) : L2I W0 wx b5 p c m gg :=
  ⟨h.sg.below hb, h.bel.trans (hb.mono h.bel.size), h.box.keep hb, h.own, h.b5⟩
theorem L2I.link {W0 wr w2 : World} {b5 : Nat} {p : Option Addr} {c m : Nat} {gg gg' : List (List Int)} (h : L2I W0 wr b5 p c m gg) (hs : SG w2 W0.heap.size (.agg #[.slice p m c]) gg') (hg : wr.grownBy w2 (Value.slice p m c).ownBlock) :
    L2I W0 (w2.setCell ⟨b5, 0, none⟩ (.slice p m c)) b5 p c m gg' := by
  have hbox := h.box.grown hg (fun e => by have := (h.own b5 e.symm).2; omega)
  exact ⟨hs.setBox hbox _, (h.bel.grown hg h.bel.size (fun k hk => (h.own k hk).1)).setCell h.b5 _, hbox.set _, h.own, h.b5⟩

end Go.Proofs.YtjdlmjmhlbpooaaDoor

/- Walk: the program's edges. -/
namespace Go.Proofs.YtjdlmjmhlbpooaaDoor
open Go.RowKit

theorem owns_shapeE {w : World} {base : Nat} {E : TypeId} {size n : Nat} {v : Value} {xs : List Value} (h : w.ownsRow base E size v n xs) : ∃ p c, v = .slice p n c := by
  rcases h.2 with ⟨rfl, h0⟩ | ⟨b, c, _, rfl, _⟩
  · exact ⟨none, 0, by rw [h0]⟩
  · exact ⟨_, _, rfl⟩
theorem get_getDP {α : Type} (l : List α) (k : Nat) (d : α) (h : k < l.length) : l[k]? = some (l.getD k d) := by simp [h]

/-- A row of pairs, the outer row the callee's own. -/
def PrsO (w : World) (base : Nat) (ov : Value) (l : List (Nat × Nat)) : Prop :=
  ∃ vals, vals.length = l.length ∧ w.ownsRow base 26 1 ov l.length vals ∧ ∀ j, j < l.length → Nums w 2 .i64 (vals.getD j undef) (row (prsL l) j)
theorem row_prsL {l : List (Nat × Nat)} {j : Nat} (h : j < l.length) : row (prsL l) j = [(l[j].1 : Int), (l[j].2 : Int)] := by simp [row, prsL, h]
theorem PrsO.below {w w' : World} {base : Nat} {ov : Value} {l : List (Nat × Nat)} (h : PrsO w base ov l) (hb : Below w.heap.size w w') : PrsO w' base ov l := by
  obtain ⟨vals, h1, h2, h3⟩ := h
  exact ⟨vals, h1, ownsRow_below h2 hb, fun j hj => (h3 j hj).below hb⟩
theorem PrsO.shape {w : World} {base : Nat} {ov : Value} {l : List (Nat × Nat)} (h : PrsO w base ov l) : ∃ p c, ov = .slice p l.length c := by
  obtain ⟨vals, _, h2, _⟩ := h
  exact owns_shapeE h2
theorem PrsO.base {w : World} {base base' : Nat} {ov : Value} {l : List (Nat × Nat)} (h : PrsO w base ov l) (hb : base' ≤ base) : PrsO w base' ov l := by
  obtain ⟨vals, h1, h2, h3⟩ := h
  exact ⟨vals, h1, ownsRow_base h2 hb, h3⟩
theorem PrsO.nil (w : World) (base : Nat) (hb : base ≤ w.heap.size) : PrsO (w.alloc (.cells #[] 26)) base (.slice (some ⟨w.heap.size, 0, none⟩) 0 0) [] :=
  ⟨[], rfl, ownsRow_base (ownsRow_empty w 26 1) hb, fun j hj => by simp at hj⟩
/-- What is appended. -/
theorem PrsO.snoc {w w' : World} {base : Nat} {ov ov' rv : Value} {l : List (Nat × Nat)} {e : Nat × Nat} {vals : List Value} (hl : vals.length = l.length) (ho : w.ownsRow base 26 1 ov l.length vals) (hr : ∀ j, j < l.length → Nums w 2 .i64 (vals.getD j undef) (row (prsL l) j))
    (ho' : w'.ownsRow base 26 1 ov' (l.length + 1) (vals ++ [rv])) (hg : w.grownBy w' ov.ownBlock) (hn : Nums w 2 .i64 rv [(e.1 : Int), (e.2 : Int)]) : PrsO w' base ov' (l ++ [e]) := by
  refine ⟨vals ++ [rv], by simp [hl], by rw [List.length_append]; exact ho', fun j hj => ?_⟩
  rw [List.length_append] at hj
  by_cases h : j < l.length
  · rw [getD_append_left _ _ _ _ (by omega)]
    have e2 : row (prsL (l ++ [e])) j = row (prsL l) j := by rw [row_prsL (by rw [List.length_append]; omega), row_prsL h]; simp [h]
    rw [e2]
    exact (hr j h).other ho hg (by decide)
  · have hj' : j = l.length := by simp at hj; omega
    subst hj'
    rw [← hl, getD_append_last, hl]
    have e2 : row (prsL (l ++ [e])) l.length = [(e.1 : Int), (e.2 : Int)] := by rw [row_prsL (by rw [List.length_append]; simp)]; simp
    rw [e2]
    exact hn.other ho hg (by decide)
theorem PrsO.get {w : World} {base : Nat} {p : Option Addr} {n c : Nat} {l : List (Nat × Nat)} (h : PrsO w base (.slice p n c) l) {k : Nat} (hk : k < l.length) :
    ∃ b o rp rc, p = some ⟨b, o, none⟩ ∧ w.cell? ⟨b, o + k, none⟩ = some (.slice rp 2 rc) ∧ Nums w 2 .i64 (.slice rp 2 rc) [(l[k].1 : Int), (l[k].2 : Int)] := by
  obtain ⟨vals, h1, h2, h3⟩ := h
  have hn := h3 k hk
  rw [row_prsL hk] at hn
  obtain ⟨rp, rc, hv, _⟩ := id hn.shape
  rcases h2.2 with ⟨_, h0⟩ | ⟨g, cap, _, e, _⟩
  · omega
  · simp only [Value.slice.injEq] at e
    obtain ⟨rfl, rfl, rfl⟩ := e
    have hc := h2.cellAt k (by omega)
    rw [get_getDP vals k undef (by omega), hv] at hc
    rw [hv] at hn
    exact ⟨g, 0, rp, rc, rfl, by rw [Nat.zero_add]; exact hc, hn⟩

def edT (g : List (List Int)) (k t : Nat) : List (Nat × Nat) := (((row g k).take t).filter fun x => decide ((k : Int) < x)).map fun x => (k, x.toNat)
theorem edT_succ {g : List (List Int)} {k t : Nat} (h : t < (row g k).length) : edT g k (t + 1) = if (k : Int) < (row g k)[t] then edT g k t ++ [(k, (row g k)[t].toNat)] else edT g k t := by
  unfold edT
  rw [take_snoc _ t h, List.filter_append]
  split
  · rename_i hc; rw [List.filter_cons_of_pos (by simpa using hc)]; simp
  · rename_i hc; rw [List.filter_cons_of_neg (by simpa using hc)]; simp
theorem edT_len (g : List (List Int)) (k t : Nat) : (edT g k t).length ≤ (row g k).length := by
  simp only [edT, List.length_map]
  exact Nat.le_trans (List.length_filter_le _ _) (by rw [List.length_take]; omega)
theorem edT_end {g : List (List Int)} (hg : GOk g) {k : Nat} (hk : k < g.length) : edT g k (row g k).length = edRow g.length (ofG g) k := by
  unfold edT edRow
  rw [List.take_length]
  have hs := hg.sets k hk
  have e : ((row g k).filter fun x => decide ((k : Int) < x)).map Int.toNat = (List.range g.length).filter fun v => decide (k < v) && ofG g k v := by
    refine rising_ext _ _ ?_ (List.Pairwise.filter _ List.pairwise_lt_range) fun x => ?_
    · rw [List.pairwise_map]
      refine (List.Pairwise.filter _ hs.1.2).imp_of_mem fun {a b} ha hb h => ?_
      have h1 := (List.mem_filter.1 ha).1
      have h2 := (hs.1.1 a h1).1
      omega
    · simp only [List.mem_map, List.mem_filter, List.mem_range, decide_eq_true_eq, Bool.and_eq_true, ofG]
      constructor
      · rintro ⟨y, ⟨hy, h1⟩, rfl⟩
        have h2 := hs.1.1 y hy
        refine ⟨by omega, by omega, ?_⟩
        rw [Int.toNat_of_nonneg h2.1]; exact hy
      · rintro ⟨h1, h2, h3⟩
        exact ⟨(x : Int), ⟨h3, by omega⟩, by simp⟩
  rw [← e, List.map_map]
  rfl

set_option maxRecDepth 100000 in
set_option maxHeartbeats 4000000 in
theorem edgesC_any (v : Value) (g : List (List Int)) (hok : GOk g) (w : World) (hg : Gr w v g) :
    Calls Tryd.prog 90 #[v] w fun e w' => ∃ u : Value, e = .returned u ∧ PrsO w' w.heap.size u (edN g.length (ofG g) g.length) ∧ Below w.heap.size w w' := by
  have hg0 := hg
  obtain ⟨u, rfl, hr⟩ := hg
  obtain ⟨p, c, rfl, _⟩ := hr.shape
  have h16 := hok.le
  have hbA := below_alloc w (.cells #[.slice p g.length c] 29)
  have HB := Lib.hid hbA
  have H2 := Lib.hid (gOk_row_le hok)
  have HOK := Lib.hid hok
  have HR := Lib.hid hr
  have HC : Hid (∀ k, k ≤ g.length → (edN g.length (ofG g) k).length ≤ 256) := Lib.hid fun k hk => by
    have := edN_length g.length (ofG g) k
    have : k * g.length ≤ 16 * 16 := Nat.mul_le_mul (by omega) h16
    omega
  clear hr hg0 hbA hok
  go_enter Tryd.func90, Tryd.ntmps90
  go_wp2
  go_loopw [3, 12] (fun u i wr => ∃ k : Nat, k ≤ g.length ∧ i = .int .i64 k ∧ PrsO wr (w.heap.size + 1) u (edN g.length (ofG g) k) ∧ Below w.heap.size w wr)
    (fun _ i _ => g.length - (intOf i).toNat)
  case atStart => exact ⟨0, Nat.zero_le _, rfl, by have := PrsO.nil (w.alloc (.cells #[.slice p g.length c] 29)) (w.heap.size + 1) (by rw [size_alloc]; omega); rw [size_alloc] at this; exact this, HB.out.alloc HB.out.size _⟩
  case round =>
    obtain ⟨k, hk, rfl, hown, hbel⟩ := hrel
    obtain ⟨outp, outc, rfl⟩ := hown.shape
    have Hown := Lib.hid hown
    have hsz := hbel.size
    clear hown
    by_cases hlt : k < g.length
    · obtain ⟨b, o, rp, rc, rfl, hcell, hnums⟩ := (HR.out.below hbel).get hlt
      change wr.cell? _ = some (.slice rp (row g k).length rc) at hcell
      have Hnums2 : Hid (Nums wr 2 .i64 (.slice rp (row g k).length rc) (row g k)) := Lib.hid hnums
      have hlen2 := H2.out k hlt
      have hck := HC.out k hk
      have HEND := Lib.hid (edT_end HOK.out hlt)
      clear hnums
      go_wp2
      have START : Hid (PrsO wr (w.heap.size + 1) (.slice outp (edN g.length (ofG g) k).length outc) (edN g.length (ofG g) k ++ edT g k 0)) := Lib.hid (by
        have : edT g k 0 = [] := by simp [edT]
        rw [this, List.append_nil]; exact Hown.out)
      have HBEL := Lib.hid hbel
      go_loopw [3, 19] (fun u i wx => ∃ t : Nat, t ≤ (row g k).length ∧ i = .int .i64 t ∧ PrsO wx (w.heap.size + 1) u (edN g.length (ofG g) k ++ edT g k t) ∧ Below w.heap.size w wx ∧ Nums wx 2 .i64 (.slice rp (row g k).length rc) (row g k))
        (fun _ i _ => (row g k).length - (intOf i).toNat)
      case atStart => exact ⟨0, Nat.zero_le _, rfl, START.out, HBEL.out, Hnums2.out⟩
      case round =>
        clear START Hown hbel HBEL hsz hcell Hnums2
        obtain ⟨t, ht, rfl, hown, hbel, hnums⟩ := hrel
        have hsz := hbel.size
        obtain ⟨outp, outc, rfl⟩ := hown.shape
        have Hnums := Lib.hid hnums
        have hte := edT_len g k t
        by_cases hlt2 : t < (row g k).length
        · obtain ⟨rb, ro, rfl, hcx⟩ := hnums.get hlt2
          have hsucc := Lib.hid (edT_succ (g := g) (k := k) hlt2)
          have hX0 := Lib.hid (((HOK.out.sets k hlt).1.1 _ (List.getElem_mem hlt2)).1)
          by_cases hgt : (k : Int) < (row g k)[t]
          · generalize (row g k)[t] = X at hcx hgt hsucc hX0
            obtain ⟨vals, hv1, hv2, hv3⟩ := hown
            have hll : (edN g.length (ofG g) k ++ edT g k t).length < 1000000000 := by rw [List.length_append]; omega
            have HV3 := Lib.hid hv3
            have HV1 := Lib.hid hv1
            clear hnums hv3 hv1 hte
            generalize hq : (edN g.length (ofG g) k ++ edT g k t).length = q at hll hv2
            go_wp2_with (at_builtin; refine wpList_app1s ty_rows64 rfl rfl rfl (hv2.alloc (.cells #[.int .i64 k, .int .i64 X] 2)) (by rw [size_alloc]; rfl) rfl hll (by rw [size_alloc]; omega) ?_; intro b7 c8 w7 hown7 hg7 _)
            go_roundw
            case rel =>
              have ha := below_alloc wr (.cells #[.int .i64 k, .int .i64 X] 2)
              have hrow : Nums (wr.alloc (.cells #[.int .i64 k, .int .i64 X] 2)) 2 .i64 (.slice (some ⟨wr.heap.size, 0, none⟩) 2 2) [((k : Nat) : Int), ((X.toNat : Nat) : Int)] := by
                rw [Int.toNat_of_nonneg hX0.out]
                exact Nums.of_owns (World.ownsRow_lit (size := 1) wr #[.int .i64 k, .int .i64 X] 2 (Nat.le_refl wr.heap.size) (by decide) rfl) rfl (by decide)
              subst hq
              refine ⟨t + 1, by omega, by go_num, ?_, below_grown (hbel.alloc hsz _) (hv2.alloc _) hg7 (by omega) (by rw [size_alloc]; omega), (Hnums.out.below ha).other (hv2.alloc _) hg7 (by decide)⟩
              rw [hsucc.out, if_pos hgt, ← List.append_assoc]
              exact PrsO.snoc (e := (k, X.toNat)) HV1.out (hv2.alloc _) (fun j hj => (HV3.out j hj).below ha) hown7 hg7 hrow
            case measure => simp [intOf]; omega
          · have Hown := Lib.hid hown
            generalize (row g k)[t] = X at hcx hgt hsucc hX0
            clear hown hnums
            go_wp2
            go_roundw
            case rel => exact ⟨t + 1, by omega, by go_num, by rw [hsucc.out, if_neg hgt]; exact Hown.out, hbel, Hnums.out⟩
            case measure => simp [intOf]; omega
        · obtain rfl : t = (row g k).length := by omega
          have Hown := Lib.hid hown
          clear hown hnums
          go_wp2
          go_roundw
          case rel =>
            refine ⟨k + 1, by omega, by go_num, ?_, hbel⟩
            rw [edN_succ, ← HEND.out]
            exact Hown.out
          case measure => simp [intOf]; omega
    · obtain rfl : k = g.length := by omega
      go_wp2
      go_ret
      exact ⟨_, rfl, Hown.out.base (by omega), hbel⟩

end Go.Proofs.YtjdlmjmhlbpooaaDoor
