/- Walk: the program's edges. -/
import Derived.Test.YtfphapcgjlhieaaDoorGtQ25
import Derived.Test.YtfphapcgjlhieaaDoorGtQ26
import Derived.Test.YtfphapcgjlhieaaDoorGtQ28
import Derived.Test.YtfphapcgjlhieaaDoorGtQ13
import Derived.Test.YtfphapcgjlhieaaDoorGtQ8
import Derived.Test.YtfphapcgjlhieaaDoorGtQ27
import Derived.Deep.RegionHeld3
import Derived.Deep.DeepCutAuto
namespace Go.Proofs.YtfphapcgjlhieaaDoor
open Go.RowKit

theorem owns_shapeE {w : World} {base : Nat} {E : TypeId} {size n : Nat} {v : Value} {xs : List Value} (h : w.ownsRow base E size v n xs) : ∃ p c, v = .slice p n c := by
  rcases h.2 with ⟨rfl, h0⟩ | ⟨b, c, _, rfl, _⟩
  · exact ⟨none, 0, by rw [h0]⟩
  · exact ⟨_, _, rfl⟩
theorem get_getDP {α : Type} (l : List α) (k : Nat) (d : α) (h : k < l.length) : l[k]? = some (l.getD k d) := by simp [h]

/-- A row of pairs, the outer row the callee's own. -/
def PrsO (w : World) (base : Nat) (ov : Value) (l : List (Nat × Nat)) : Prop :=
  ∃ vals, vals.length = l.length ∧ w.ownsRow base 52 1 ov l.length vals ∧ ∀ j, j < l.length → Nums w 2 .i64 (vals.getD j undef) (row (prsL l) j)
theorem row_prsL {l : List (Nat × Nat)} {j : Nat} (h : j < l.length) : row (prsL l) j = [(l[j].1 : Int), (l[j].2 : Int)] := by simp [row, prsL, h]
theorem PrsO.below {w w' : World} {base : Nat} {ov : Value} {l : List (Nat × Nat)} (h : PrsO w base ov l) (hb : Below w.heap.size w w') : PrsO w' base ov l := by
  obtain ⟨vals, h1, h2, h3⟩ := h
  exact ⟨vals, h1, ownsRow_below h2 hb, fun j hj => (h3 j hj).below hb⟩
theorem PrsO.shape {w : World} {base : Nat} {ov : Value} {l : List (Nat × Nat)} (h : PrsO w base ov l) : ∃ p c, ov = .slice p l.length c := by
  obtain ⟨vals, _, h2, _⟩ := h
  exact owns_shapeE h2
theorem PrsO.base {w : World} {base base' : Nat} {ov : Value} {l : List (Nat × Nat)} (h : PrsO w base ov l) (hb : base' ≤ base) : PrsO w base' ov l := by
  obtain ⟨vals, h1, h2, h3⟩ := h
  exact ⟨vals, h1, ownsRow_base h2 hb, h3⟩
theorem PrsO.nil (w : World) (base : Nat) (hb : base ≤ w.heap.size) : PrsO (w.alloc (.cells #[] 52)) base (.slice (some ⟨w.heap.size, 0, none⟩) 0 0) [] :=
  ⟨[], rfl, ownsRow_base (ownsRow_empty w 52 1) hb, fun j hj => by simp at hj⟩
/-- What is appended. -/
theorem PrsO.snoc {w w' : World} {base : Nat} {ov ov' rv : Value} {l : List (Nat × Nat)} {e : Nat × Nat} {vals : List Value} (hl : vals.length = l.length) (ho : w.ownsRow base 52 1 ov l.length vals) (hr : ∀ j, j < l.length → Nums w 2 .i64 (vals.getD j undef) (row (prsL l) j))
    (ho' : w'.ownsRow base 52 1 ov' (l.length + 1) (vals ++ [rv])) (hg : w.grownBy w' ov.ownBlock) (hn : Nums w 2 .i64 rv [(e.1 : Int), (e.2 : Int)]) : PrsO w' base ov' (l ++ [e]) := by
  refine ⟨vals ++ [rv], by simp [hl], by rw [List.length_append]; exact ho', fun j hj => ?_⟩
  rw [List.length_append] at hj
  by_cases h : j < l.length
  · rw [getD_append_left _ _ _ _ (by omega)]
    have e2 : row (prsL (l ++ [e])) j = row (prsL l) j := by rw [row_prsL (by rw [List.length_append]; omega), row_prsL h]; simp [h]
    rw [e2]
    exact (hr j h).other ho hg (by decide)
  · have hj' : j = l.length := by simp at hj; omega
    subst hj'
    rw [← hl, getD_append_last, hl]
    have e2 : row (prsL (l ++ [e])) l.length = [(e.1 : Int), (e.2 : Int)] := by rw [row_prsL (by rw [List.length_append]; simp)]; simp
    rw [e2]
    exact hn.other ho hg (by decide)
theorem PrsO.get {w : World} {base : Nat} {p : Option Addr} {n c : Nat} {l : List (Nat × Nat)} (h : PrsO w base (.slice p n c) l) {k : Nat} (hk : k < l.length) :
    ∃ b o rp rc, p = some ⟨b, o, none⟩ ∧ w.cell? ⟨b, o + k, none⟩ = some (.slice rp 2 rc) ∧ Nums w 2 .i64 (.slice rp 2 rc) [(l[k].1 : Int), (l[k].2 : Int)] := by
  obtain ⟨vals, h1, h2, h3⟩ := h
  have hn := h3 k hk
  rw [row_prsL hk] at hn
  obtain ⟨rp, rc, hv, _⟩ := id hn.shape
  rcases h2.2 with ⟨_, h0⟩ | ⟨g, cap, _, e, _⟩
  · omega
  · simp only [Value.slice.injEq] at e
    obtain ⟨rfl, rfl, rfl⟩ := e
    have hc := h2.cellAt k (by omega)
    rw [get_getDP vals k undef (by omega), hv] at hc
    rw [hv] at hn
    exact ⟨g, 0, rp, rc, rfl, by rw [Nat.zero_add]; exact hc, hn⟩

def edT (g : List (List Int)) (k t : Nat) : List (Nat × Nat) := (((row g k).take t).filter fun x => decide ((k : Int) < x)).map fun x => (k, x.toNat)
theorem edT_succ {g : List (List Int)} {k t : Nat} (h : t < (row g k).length) : edT g k (t + 1) = if (k : Int) < (row g k)[t] then edT g k t ++ [(k, (row g k)[t].toNat)] else edT g k t := by
  unfold edT
  rw [take_snoc _ t h, List.filter_append]
  split
  · rename_i hc; rw [List.filter_cons_of_pos (by simpa using hc)]; simp
  · rename_i hc; rw [List.filter_cons_of_neg (by simpa using hc)]; simp
theorem edT_len (g : List (List Int)) (k t : Nat) : (edT g k t).length ≤ (row g k).length := by
  simp only [edT, List.length_map]
  exact Nat.le_trans (List.length_filter_le _ _) (by rw [List.length_take]; omega)
theorem edT_end {g : List (List Int)} (hg : GOk g) {k : Nat} (hk : k < g.length) : edT g k (row g k).length = edRow g.length (ofG g) k := by
  unfold edT edRow
  rw [List.take_length]
  have hs := hg.sets k hk
  have e : ((row g k).filter fun x => decide ((k : Int) < x)).map Int.toNat = (List.range g.length).filter fun v => decide (k < v) && ofG g k v := by
    refine rising_ext _ _ ?_ (List.Pairwise.filter _ List.pairwise_lt_range) fun x => ?_
    · rw [List.pairwise_map]
      refine (List.Pairwise.filter _ hs.1.2).imp_of_mem fun {a b} ha hb h => ?_
      have h1 := (List.mem_filter.1 ha).1
      have h2 := (hs.1.1 a h1).1
      omega
    · simp only [List.mem_map, List.mem_filter, List.mem_range, decide_eq_true_eq, Bool.and_eq_true, ofG]
      constructor
      · rintro ⟨y, ⟨hy, h1⟩, rfl⟩
        have h2 := hs.1.1 y hy
        refine ⟨by omega, by omega, ?_⟩
        rw [Int.toNat_of_nonneg h2.1]; exact hy
      · rintro ⟨h1, h2, h3⟩
        exact ⟨(x : Int), ⟨h3, by omega⟩, by simp⟩
  rw [← e, List.map_map]
  rfl

set_option maxRecDepth 100000 in
set_option maxHeartbeats 4000000 in
theorem edgesC_any (v : Value) (g : List (List Int)) (hok : GOk g) (w : World) (hg : Gr w v g) :
    Calls Tryd.prog 88 #[v] w fun e w' => ∃ u : Value, e = .returned u ∧ PrsO w' w.heap.size u (edN g.length (ofG g) g.length) ∧ Below w.heap.size w w' := by
  have hg0 := hg
  obtain ⟨u, rfl, hr⟩ := hg
  obtain ⟨p, c, rfl, _⟩ := hr.shape
  have h16 := hok.le
  have hbA := below_alloc w (.cells #[.slice p g.length c] 26)
  have HB := Lib.hid hbA
  have H2 := Lib.hid (gOk_row_le hok)
  have HOK := Lib.hid hok
  have HR := Lib.hid hr
  have HC : Hid (∀ k, k ≤ g.length → (edN g.length (ofG g) k).length ≤ 256) := Lib.hid fun k hk => by
    have := edN_length g.length (ofG g) k
    have : k * g.length ≤ 16 * 16 := Nat.mul_le_mul (by omega) h16
    omega
  clear hr hg0 hbA hok
  go_enter Tryd.func88, Tryd.ntmps88
  go_wp2
  go_loopw [3, 12] (fun u i wr => ∃ k : Nat, k ≤ g.length ∧ i = .int .i64 k ∧ PrsO wr (w.heap.size + 1) u (edN g.length (ofG g) k) ∧ Below w.heap.size w wr)
    (fun _ i _ => g.length - (intOf i).toNat)
  case atStart => exact ⟨0, Nat.zero_le _, rfl, by have := PrsO.nil (w.alloc (.cells #[.slice p g.length c] 26)) (w.heap.size + 1) (by rw [size_alloc]; omega); rw [size_alloc] at this; exact this, HB.out.alloc HB.out.size _⟩
  case round =>
    obtain ⟨k, hk, rfl, hown, hbel⟩ := hrel
    obtain ⟨outp, outc, rfl⟩ := hown.shape
    have Hown := Lib.hid hown
    have hsz := hbel.size
    clear hown
    by_cases hlt : k < g.length
    · obtain ⟨b, o, rp, rc, rfl, hcell, hnums⟩ := (HR.out.below hbel).get hlt
      change wr.cell? _ = some (.slice rp (row g k).length rc) at hcell
      have Hnums2 : Hid (Nums wr 2 .i64 (.slice rp (row g k).length rc) (row g k)) := Lib.hid hnums
      have hlen2 := H2.out k hlt
      have hck := HC.out k hk
      have HEND := Lib.hid (edT_end HOK.out hlt)
      clear hnums
      go_wp2
      have START : Hid (PrsO wr (w.heap.size + 1) (.slice outp (edN g.length (ofG g) k).length outc) (edN g.length (ofG g) k ++ edT g k 0)) := Lib.hid (by
        have : edT g k 0 = [] := by simp [edT]
        rw [this, List.append_nil]; exact Hown.out)
      have HBEL := Lib.hid hbel
      go_loopw [3, 19] (fun u i wx => ∃ t : Nat, t ≤ (row g k).length ∧ i = .int .i64 t ∧ PrsO wx (w.heap.size + 1) u (edN g.length (ofG g) k ++ edT g k t) ∧ Below w.heap.size w wx ∧ Nums wx 2 .i64 (.slice rp (row g k).length rc) (row g k))
        (fun _ i _ => (row g k).length - (intOf i).toNat)
      case atStart => exact ⟨0, Nat.zero_le _, rfl, START.out, HBEL.out, Hnums2.out⟩
      case round =>
        clear START Hown hbel HBEL hsz hcell Hnums2
        obtain ⟨t, ht, rfl, hown, hbel, hnums⟩ := hrel
        have hsz := hbel.size
        obtain ⟨outp, outc, rfl⟩ := hown.shape
        have Hnums := Lib.hid hnums
        have hte := edT_len g k t
        by_cases hlt2 : t < (row g k).length
        · obtain ⟨rb, ro, rfl, hcx⟩ := hnums.get hlt2
          have hsucc := Lib.hid (edT_succ (g := g) (k := k) hlt2)
          have hX0 := Lib.hid (((HOK.out.sets k hlt).1.1 _ (List.getElem_mem hlt2)).1)
          by_cases hgt : (k : Int) < (row g k)[t]
          · generalize (row g k)[t] = X at hcx hgt hsucc hX0
            obtain ⟨vals, hv1, hv2, hv3⟩ := hown
            have hll : (edN g.length (ofG g) k ++ edT g k t).length < 1000000000 := by rw [List.length_append]; omega
            have HV3 := Lib.hid hv3
            have HV1 := Lib.hid hv1
            clear hnums hv3 hv1 hte
            generalize hq : (edN g.length (ofG g) k ++ edT g k t).length = q at hll hv2
            go_wp2_with (at_builtin; refine wpList_app1s ty_rows64 rfl rfl rfl (hv2.alloc (.cells #[.int .i64 k, .int .i64 X] 2)) (by rw [size_alloc]; rfl) rfl hll (by rw [size_alloc]; omega) ?_; intro b7 c8 w7 hown7 hg7 _)
            go_roundw
            case rel =>
              have ha := below_alloc wr (.cells #[.int .i64 k, .int .i64 X] 2)
              have hrow : Nums (wr.alloc (.cells #[.int .i64 k, .int .i64 X] 2)) 2 .i64 (.slice (some ⟨wr.heap.size, 0, none⟩) 2 2) [((k : Nat) : Int), ((X.toNat : Nat) : Int)] := by
                rw [Int.toNat_of_nonneg hX0.out]
                exact Nums.of_owns (World.ownsRow_lit (size := 1) wr #[.int .i64 k, .int .i64 X] 2 (Nat.le_refl wr.heap.size) (by decide) rfl) rfl (by decide)
              subst hq
              refine ⟨t + 1, by omega, by go_num, ?_, below_grown (hbel.alloc hsz _) (hv2.alloc _) hg7 (by omega) (by rw [size_alloc]; omega), (Hnums.out.below ha).other (hv2.alloc _) hg7 (by decide)⟩
              rw [hsucc.out, if_pos hgt, ← List.append_assoc]
              exact PrsO.snoc (e := (k, X.toNat)) HV1.out (hv2.alloc _) (fun j hj => (HV3.out j hj).below ha) hown7 hg7 hrow
            case measure => simp [intOf]; omega
          · have Hown := Lib.hid hown
            generalize (row g k)[t] = X at hcx hgt hsucc hX0
            clear hown hnums
            go_wp2
            go_roundw
            case rel => exact ⟨t + 1, by omega, by go_num, by rw [hsucc.out, if_neg hgt]; exact Hown.out, hbel, Hnums.out⟩
            case measure => simp [intOf]; omega
        · obtain rfl : t = (row g k).length := by omega
          have Hown := Lib.hid hown
          clear hown hnums
          go_wp2
          go_roundw
          case rel =>
            refine ⟨k + 1, by omega, by go_num, ?_, hbel⟩
            rw [edN_succ, ← HEND.out]
            exact Hown.out
          case measure => simp [intOf]; omega
    · obtain rfl : k = g.length := by omega
      go_wp2
      go_ret
      exact ⟨_, rfl, Hown.out.base (by omega), hbel⟩

end Go.Proofs.YtfphapcgjlhieaaDoor

/- Walk: the program's edges; two vertices made no neighbours. -/
namespace Go.Proofs.YtfphapcgjlhieaaDoor
end Go.Proofs.YtfphapcgjlhieaaDoor

/- Walk: the program's bridges. -/
namespace Go.Proofs.YtfphapcgjlhieaaDoor
open Go.RowKit

theorem bits_all {n : Nat} (hn : n ≤ 16) {W : Nat} (hW : W = 2 ^ n - 1) : bitsOf W = List.range n := by
  have h16 : W < 65536 := by
    have : 2 ^ n ≤ 2 ^ 16 := Nat.pow_le_pow_right (by decide) hn
    have h2 : (2 : Nat) ^ 16 = 65536 := by decide
    have : 0 < 2 ^ n := Nat.pow_pos (by decide)
    omega
  refine rising_ext _ _ (bitsOf_rising _) List.pairwise_lt_range fun i => ?_
  rw [mem_left h16, hW, testBit_firstOf]
  simp
theorem all_lt {n : Nat} (hn : n ≤ 16) {W : Nat} (hW : W = 2 ^ n - 1) : W < 65536 ∧ (∀ i, W.testBit i = true → i < n) ∧ ∀ i, i < n → W.testBit i = true := by
  have : 2 ^ n ≤ 2 ^ 16 := Nat.pow_le_pow_right (by decide) hn
  have h2 : (2 : Nat) ^ 16 = 65536 := by decide
  have : 0 < 2 ^ n := Nat.pow_pos (by decide)
  refine ⟨by omega, fun i hi => ?_, fun i hi => ?_⟩
  · rw [hW, testBit_firstOf] at hi; simpa using hi
  · rw [hW, testBit_firstOf]; simpa using hi
theorem PrsO.otherT {w w' : World} {base base2 : Nat} {ev v : Value} {l : List (Nat × Nat)} {n : Nat} {xs : List Value} (h : PrsO w base ev l) (ho : w.ownsRow base2 76 1 v n xs) (hg : w.grownBy w' v.ownBlock) : PrsO w' base ev l := by
  obtain ⟨vals, h1, h2, h3⟩ := h
  exact ⟨vals, h1, ownsRow_other h2 ho hg (by decide), fun j hj => (h3 j hj).other ho hg (by decide)⟩
theorem PrsO.keptO {w w' : World} {base base2 : Nat} {ev v : Value} {l : List (Nat × Nat)} {n : Nat} {xs : List Value} (h : PrsO w base ev l) (ho : w.ownsRow base2 52 1 v n xs) (hg : w.grownBy w' v.ownBlock) (hne : ∀ b, ev.ownBlock = some b → v.ownBlock ≠ some b) : PrsO w' base ev l := by
  obtain ⟨vals, h1, h2, h3⟩ := h
  refine ⟨vals, h1, h2.kept hg ?_, fun j hj => (h3 j hj).other ho hg (by decide)⟩
  cases hb : ev.ownBlock with
  | none => exact .inl rfl
  | some b => exact .inr fun e => hne b hb e.symm

/-- What the loop over the edges carries. -/
structure BrI (w wr : World) (x ev ov : Value) (B Bx Be : Nat) (n : Nat) (E : Nat → Nat → Bool) (t : Nat) : Prop where
  net : wr.ownsRow Bx 76 1 x n ((indN n E).map u32v)
  edg : PrsO wr Be ev (edN n E n)
  out : PrsO wr B ov (brdL n E ((edN n E n).take t))
  far : ∀ b, ev.ownBlock = some b → ov.ownBlock ≠ some b
  bel : Below w.heap.size w wr
  tab : Tab wr
  tpos : 0 < w.heap.size
  b1 : w.heap.size ≤ B
  b2 : w.heap.size ≤ Bx
  b3 : B ≤ wr.heap.size

theorem BrI.next {w wr wx : World} {x ev ov : Value} {B Bx Be n : Nat} {E : Nat → Nat → Bool} {t : Nat} (h : BrI w wr x ev ov B Bx Be n E t) (hb : Below wr.heap.size wr wx) : BrI w wx x ev ov B Bx Be n E t :=
  ⟨ownsRow_below h.net hb, h.edg.below hb, h.out.below hb, h.far, h.bel.trans (hb.mono h.bel.size), h.tab.keep hb, h.tpos, h.b1, h.b2, Nat.le_trans h.b3 hb.size⟩
/-- While an edge is cut. -/
structure BrC (w wr : World) (x ev ov : Value) (B Bx Be : Nat) (n : Nat) (E : Nat → Nat → Bool) (l : List (Nat × Nat)) (F : Nat → Nat → Bool) : Prop where
  net : wr.ownsRow Bx 76 1 x n ((indN n F).map u32v)
  edg : PrsO wr Be ev (edN n E n)
  out : PrsO wr B ov l
  far : ∀ b, ev.ownBlock = some b → ov.ownBlock ≠ some b
  bel : Below w.heap.size w wr
  tab : Tab wr
  tpos : 0 < w.heap.size
  b1 : w.heap.size ≤ B
  b2 : w.heap.size ≤ Bx
  b3 : B ≤ wr.heap.size
theorem BrC.next {w wr wx : World} {x ev ov : Value} {B Bx Be n : Nat} {E F : Nat → Nat → Bool} {l : List (Nat × Nat)} (h : BrC w wr x ev ov B Bx Be n E l F) (hb : Below wr.heap.size wr wx) : BrC w wx x ev ov B Bx Be n E l F :=
  ⟨ownsRow_below h.net hb, h.edg.below hb, h.out.below hb, h.far, h.bel.trans (hb.mono h.bel.size), h.tab.keep hb, h.tpos, h.b1, h.b2, Nat.le_trans h.b3 hb.size⟩
theorem BrC.turn {w wr wx : World} {x ev ov : Value} {B Bx Be n : Nat} {E F F' : Nat → Nat → Bool} {l : List (Nat × Nat)} (h : BrC w wr x ev ov B Bx Be n E l F) (ho : wx.ownsRow Bx 76 1 x n ((indN n F').map u32v)) (hg : wr.grownBy wx x.ownBlock) : BrC w wx x ev ov B Bx Be n E l F' :=
  ⟨ho, h.edg.otherT h.net hg, h.out.otherT h.net hg, h.far, below_grown h.bel h.net hg h.b2 h.bel.size, h.tab.grownP hg (fun e => by
    have e' : x.ownBlock = some 0 := e.symm
    have := (h.net.lt _ e').1
    have := h.b2
    have := h.tpos
    omega), h.tpos, h.b1, h.b2, Nat.le_trans h.b3 hg.size⟩
theorem BrC.put {w wr wx : World} {x ev ov rv : Value} {B Bx Be n b7 c7 : Nat} {E F : Nat → Nat → Bool} {l : List (Nat × Nat)} {e : Nat × Nat} {vals : List Value} (h : BrC w wr x ev ov B Bx Be n E l F) (hv : vals.length = l.length) (ho : wr.ownsRow B 52 1 ov l.length vals) (hr : ∀ j, j < l.length → Nums wr 2 .i64 (vals.getD j undef) (row (prsL l) j))
    (hn : Nums wr 2 .i64 rv [(e.1 : Int), (e.2 : Int)]) (ho' : wx.ownsRow B 52 1 (.slice (some ⟨b7, 0, none⟩) (l.length + 1) c7) (l.length + 1) (vals ++ [rv])) (hg : wr.grownBy wx ov.ownBlock) (hb7 : ov.ownBlock = some b7 ∨ wr.heap.size < b7) :
    BrC w wx x ev (.slice (some ⟨b7, 0, none⟩) (l.length + 1) c7) B Bx Be n E (l ++ [e]) F := by
  refine ⟨ownsRow_other h.net ho hg (by decide), h.edg.keptO ho hg h.far, PrsO.snoc hv ho hr ho' hg hn, fun b hb he => ?_, below_grown h.bel ho hg h.b1 h.bel.size, h.tab.grownP hg (fun e => by
    have e' : ov.ownBlock = some 0 := e.symm
    have := (ho.lt _ e').1
    have := h.b1
    have := h.tpos
    omega), h.tpos, h.b1, h.b2, Nat.le_trans h.b3 hg.size⟩
  have e2 : b7 = b := by simpa [Value.ownBlock] using he
  subst e2
  rcases hb7 with h7 | h7
  · exact h.far _ hb h7
  · obtain ⟨vals2, _, h2, _⟩ := h.edg
    have := (h2.lt _ hb).2
    omega

end Go.Proofs.YtfphapcgjlhieaaDoor
