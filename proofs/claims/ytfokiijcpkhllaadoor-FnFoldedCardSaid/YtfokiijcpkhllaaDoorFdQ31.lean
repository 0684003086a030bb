/- Walks: two vertices made no neighbours; the program's edges. -/
import Derived.Test.YtfokiijcpkhllaaDoorFdQ29
import Derived.Test.YtfokiijcpkhllaaDoorFdQ26
import Derived.Test.YtfokiijcpkhllaaDoorFdQ30
import Derived.Deep.RegionWith
import Derived.Test.YtfokiijcpkhllaaDoorFdQ24
import Derived.Test.YtfokiijcpkhllaaDoorFdQ21
import Derived.Test.YtfokiijcpkhllaaDoorFdQ9
import Derived.Deep.RegionHeld3
import Derived.Deep.DeepCutAuto
import Derived.Test.YtfokiijcpkhllaaDoorFdQ3
import Derived.Deep.RegionLaw
namespace Go.Proofs.YtfokiijcpkhllaaDoor
open Go.RowKit

end Go.Proofs.YtfokiijcpkhllaaDoor

/- Walk: the program's edges. -/
namespace Go.Proofs.YtfokiijcpkhllaaDoor
open Go.RowKit

theorem owns_shapeE {w : World} {base : Nat} {E : TypeId} {size n : Nat} {v : Value} {xs : List Value} (h : w.ownsRow base E size v n xs) : ∃ p c, v = .slice p n c := by
  rcases h.2 with ⟨rfl, h0⟩ | ⟨b, c, _, rfl, _⟩
  · exact ⟨none, 0, by rw [h0]⟩
  · exact ⟨_, _, rfl⟩
theorem get_getDP {α : Type} (l : List α) (k : Nat) (d : α) (h : k < l.length) : l[k]? = some (l.getD k d) := by simp [h]

/-- A row of pairs, the outer row the callee's own. -/
def PrsO (w : World) (base : Nat) (ov : Value) (l : List (Nat × Nat)) : Prop :=
  ∃ vals, vals.length = l.length ∧ w.ownsRow base 32 1 ov l.length vals ∧ ∀ j, j < l.length → Nums w 2 .i64 (vals.getD j undef) (row (prsL l) j)
theorem row_prsL {l : List (Nat × Nat)} {j : Nat} (h : j < l.length) : row (prsL l) j = [(l[j].1 : Int), (l[j].2 : Int)] := by simp [row, prsL, h]
theorem PrsO.below {w w' : World} {base : Nat} {ov : Value} {l : List (Nat × Nat)} (h : PrsO w base ov l) (hb : Below w.heap.size w w') : PrsO w' base ov l := by
  obtain ⟨vals, h1, h2, h3⟩ := h
  exact ⟨vals, h1, ownsRow_below h2 hb, fun j hj => (h3 j hj).below hb⟩
theorem PrsO.shape {w : World} {base : Nat} {ov : Value} {l : List (Nat × Nat)} (h : PrsO w base ov l) : ∃ p c, ov = .slice p l.length c := by
  obtain ⟨vals, _, h2, _⟩ := h
  exact owns_shapeE h2
theorem PrsO.base {w : World} {base base' : Nat} {ov : Value} {l : List (Nat × Nat)} (h : PrsO w base ov l) (hb : base' ≤ base) : PrsO w base' ov l := by
  obtain ⟨vals, h1, h2, h3⟩ := h
  exact ⟨vals, h1, ownsRow_base h2 hb, h3⟩
theorem PrsO.nil (w : World) (base : Nat) (hb : base ≤ w.heap.size) : PrsO (w.alloc (.cells #[] 32)) base (.slice (some ⟨w.heap.size, 0, none⟩) 0 0) [] :=
  ⟨[], rfl, ownsRow_base (ownsRow_empty w 32 1) hb, fun j hj => by simp at hj⟩
/-- What is appended. -/
theorem PrsO.snoc {w w' : World} {base : Nat} {ov ov' rv : Value} {l : List (Nat × Nat)} {e : Nat × Nat} {vals : List Value} (hl : vals.length = l.length) (ho : w.ownsRow base 32 1 ov l.length vals) (hr : ∀ j, j < l.length → Nums w 2 .i64 (vals.getD j undef) (row (prsL l) j))
    (ho' : w'.ownsRow base 32 1 ov' (l.length + 1) (vals ++ [rv])) (hg : w.grownBy w' ov.ownBlock) (hn : Nums w 2 .i64 rv [(e.1 : Int), (e.2 : Int)]) : PrsO w' base ov' (l ++ [e]) := by
  refine ⟨vals ++ [rv], by simp [hl], by rw [List.length_append]; exact ho', fun j hj => ?_⟩
  rw [List.length_append] at hj
  by_cases h : j < l.length
  · rw [getD_append_left _ _ _ _ (by omega)]
    have e2 : row (prsL (l ++ [e])) j = row (prsL l) j := by rw [row_prsL (by rw [List.length_append]; omega), row_prsL h]; simp [h]
    rw [e2]
    exact (hr j h).other ho hg (by decide)
  · have hj' : j = l.length := by simp at hj; omega
    subst hj'
    rw [← hl, getD_append_last, hl]
    have e2 : row (prsL (l ++ [e])) l.length = [(e.1 : Int), (e.2 : Int)] := by rw [row_prsL (by rw [List.length_append]; simp)]; simp
    rw [e2]
    exact hn.other ho hg (by decide)
theorem PrsO.get {w : World} {base : Nat} {p : Option Addr} {n c : Nat} {l : List (Nat × Nat)} (h : PrsO w base (.slice p n c) l) {k : Nat} (hk : k < l.length) :
    ∃ b o rp rc, p = some ⟨b, o, none⟩ ∧ w.cell? ⟨b, o + k, none⟩ = some (.slice rp 2 rc) ∧ Nums w 2 .i64 (.slice rp 2 rc) [(l[k].1 : Int), (l[k].2 : Int)] := by
  obtain ⟨vals, h1, h2, h3⟩ := h
  have hn := h3 k hk
  rw [row_prsL hk] at hn
  obtain ⟨rp, rc, hv, _⟩ := id hn.shape
  rcases h2.2 with ⟨_, h0⟩ | ⟨g, cap, _, e, _⟩
  · omega
  · simp only [Value.slice.injEq] at e
    obtain ⟨rfl, rfl, rfl⟩ := e
    have hc := h2.cellAt k (by omega)
    rw [get_getDP vals k undef (by omega), hv] at hc
    rw [hv] at hn
    exact ⟨g, 0, rp, rc, rfl, by rw [Nat.zero_add]; exact hc, hn⟩

def edT (g : List (List Int)) (k t : Nat) : List (Nat × Nat) := (((row g k).take t).filter fun x => decide ((k : Int) < x)).map fun x => (k, x.toNat)
theorem edT_succ {g : List (List Int)} {k t : Nat} (h : t < (row g k).length) : edT g k (t + 1) = if (k : Int) < (row g k)[t] then edT g k t ++ [(k, (row g k)[t].toNat)] else edT g k t := by
  unfold edT
  rw [take_snoc _ t h, List.filter_append]
  split
  · rename_i hc; rw [List.filter_cons_of_pos (by simpa using hc)]; simp
  · rename_i hc; rw [List.filter_cons_of_neg (by simpa using hc)]; simp
theorem edT_len (g : List (List Int)) (k t : Nat) : (edT g k t).length ≤ (row g k).length := by
  simp only [edT, List.length_map]
  exact Nat.le_trans (List.length_filter_le _ _) (by rw [List.length_take]; omega)
theorem edT_end {g : List (List Int)} (hg : GOk g) {k : Nat} (hk : k < g.length) : edT g k (row g k).length = edRow g.length (ofG g) k := by
  unfold edT edRow
  rw [List.take_length]
  have hs := hg.sets k hk
  have e : ((row g k).filter fun x => decide ((k : Int) < x)).map Int.toNat = (List.range g.length).filter fun v => decide (k < v) && ofG g k v := by
    refine rising_ext _ _ ?_ (List.Pairwise.filter _ List.pairwise_lt_range) fun x => ?_
    · rw [List.pairwise_map]
      refine (List.Pairwise.filter _ hs.1.2).imp_of_mem fun {a b} ha hb h => ?_
      have h1 := (List.mem_filter.1 ha).1
      have h2 := (hs.1.1 a h1).1
      omega
    · simp only [List.mem_map, List.mem_filter, List.mem_range, decide_eq_true_eq, Bool.and_eq_true, ofG]
      constructor
      · rintro ⟨y, ⟨hy, h1⟩, rfl⟩
        have h2 := hs.1.1 y hy
        refine ⟨by omega, by omega, ?_⟩
        rw [Int.toNat_of_nonneg h2.1]; exact hy
      · rintro ⟨h1, h2, h3⟩
        exact ⟨(x : Int), ⟨h3, by omega⟩, by simp⟩
  rw [← e, List.map_map]
  rfl

set_option maxRecDepth 100000 in
set_option maxHeartbeats 4000000 in
theorem edgesC_any (v : Value) (g : List (List Int)) (hok : GOk g) (w : World) (hg : Gr w v g) :
    Calls Tryd.prog 94 #[v] w fun e w' => ∃ u : Value, e = .returned u ∧ PrsO w' w.heap.size u (edN g.length (ofG g) g.length) ∧ Below w.heap.size w w' := by
  have hg0 := hg
  obtain ⟨u, rfl, hr⟩ := hg
  obtain ⟨p, c, rfl, _⟩ := hr.shape
  have h16 := hok.le
  have hbA := below_alloc w (.cells #[.slice p g.length c] 29)
  have HB := Lib.hid hbA
  have H2 := Lib.hid (gOk_row_le hok)
  have HOK := Lib.hid hok
  have HR := Lib.hid hr
  have HC : Hid (∀ k, k ≤ g.length → (edN g.length (ofG g) k).length ≤ 256) := Lib.hid fun k hk => by
    have := edN_length g.length (ofG g) k
    have : k * g.length ≤ 16 * 16 := Nat.mul_le_mul (by omega) h16
    omega
  clear hr hg0 hbA hok
  go_enter Tryd.func94, Tryd.ntmps94
  go_wp2
  go_loopw [3, 12] (fun u i wr => ∃ k : Nat, k ≤ g.length ∧ i = .int .i64 k ∧ PrsO wr (w.heap.size + 1) u (edN g.length (ofG g) k) ∧ Below w.heap.size w wr)
    (fun _ i _ => g.length - (intOf i).toNat)
  case atStart => exact ⟨0, Nat.zero_le _, rfl, by have := PrsO.nil (w.alloc (.cells #[.slice p g.length c] 29)) (w.heap.size + 1) (by rw [size_alloc]; omega); rw [size_alloc] at this; exact this, HB.out.alloc HB.out.size _⟩
  case round =>
    obtain ⟨k, hk, rfl, hown, hbel⟩ := hrel
    obtain ⟨outp, outc, rfl⟩ := hown.shape
    have Hown := Lib.hid hown
    have hsz := hbel.size
    clear hown
    by_cases hlt : k < g.length
    · obtain ⟨b, o, rp, rc, rfl, hcell, hnums⟩ := (HR.out.below hbel).get hlt
      change wr.cell? _ = some (.slice rp (row g k).length rc) at hcell
      have Hnums2 : Hid (Nums wr 2 .i64 (.slice rp (row g k).length rc) (row g k)) := Lib.hid hnums
      have hlen2 := H2.out k hlt
      have hck := HC.out k hk
      have HEND := Lib.hid (edT_end HOK.out hlt)
      clear hnums
      go_wp2
      have START : Hid (PrsO wr (w.heap.size + 1) (.slice outp (edN g.length (ofG g) k).length outc) (edN g.length (ofG g) k ++ edT g k 0)) := Lib.hid (by
        have : edT g k 0 = [] := by simp [edT]
        rw [this, List.append_nil]; exact Hown.out)
      have HBEL := Lib.hid hbel
      go_loopw [3, 19] (fun u i wx => ∃ t : Nat, t ≤ (row g k).length ∧ i = .int .i64 t ∧ PrsO wx (w.heap.size + 1) u (edN g.length (ofG g) k ++ edT g k t) ∧ Below w.heap.size w wx ∧ Nums wx 2 .i64 (.slice rp (row g k).length rc) (row g k))
        (fun _ i _ => (row g k).length - (intOf i).toNat)
      case atStart => exact ⟨0, Nat.zero_le _, rfl, START.out, HBEL.out, Hnums2.out⟩
      case round =>
        clear START Hown hbel HBEL hsz hcell Hnums2
        obtain ⟨t, ht, rfl, hown, hbel, hnums⟩ := hrel
        have hsz := hbel.size
        obtain ⟨outp, outc, rfl⟩ := hown.shape
        have Hnums := Lib.hid hnums
        have hte := edT_len g k t
        by_cases hlt2 : t < (row g k).length
        · obtain ⟨rb, ro, rfl, hcx⟩ := hnums.get hlt2
          have hsucc := Lib.hid (edT_succ (g := g) (k := k) hlt2)
          have hX0 := Lib.hid (((HOK.out.sets k hlt).1.1 _ (List.getElem_mem hlt2)).1)
          by_cases hgt : (k : Int) < (row g k)[t]
          · generalize (row g k)[t] = X at hcx hgt hsucc hX0
            obtain ⟨vals, hv1, hv2, hv3⟩ := hown
            have hll : (edN g.length (ofG g) k ++ edT g k t).length < 1000000000 := by rw [List.length_append]; omega
            have HV3 := Lib.hid hv3
            have HV1 := Lib.hid hv1
            clear hnums hv3 hv1 hte
            generalize hq : (edN g.length (ofG g) k ++ edT g k t).length = q at hll hv2
            go_wp2_with (at_builtin; refine wpList_app1s ty_rows64 rfl rfl rfl (hv2.alloc (.cells #[.int .i64 k, .int .i64 X] 2)) (by rw [size_alloc]; rfl) rfl hll (by rw [size_alloc]; omega) ?_; intro b7 c8 w7 hown7 hg7 _)
            go_roundw
            case rel =>
              have ha := below_alloc wr (.cells #[.int .i64 k, .int .i64 X] 2)
              have hrow : Nums (wr.alloc (.cells #[.int .i64 k, .int .i64 X] 2)) 2 .i64 (.slice (some ⟨wr.heap.size, 0, none⟩) 2 2) [((k : Nat) : Int), ((X.toNat : Nat) : Int)] := by
                rw [Int.toNat_of_nonneg hX0.out]
                exact Nums.of_owns (World.ownsRow_lit (size := 1) wr #[.int .i64 k, .int .i64 X] 2 (Nat.le_refl wr.heap.size) (by decide) rfl) rfl (by decide)
              subst hq
              refine ⟨t + 1, by omega, by go_num, ?_, below_grown (hbel.alloc hsz _) (hv2.alloc _) hg7 (by omega) (by rw [size_alloc]; omega), (Hnums.out.below ha).other (hv2.alloc _) hg7 (by decide)⟩
              rw [hsucc.out, if_pos hgt, ← List.append_assoc]
              exact PrsO.snoc (e := (k, X.toNat)) HV1.out (hv2.alloc _) (fun j hj => (HV3.out j hj).below ha) hown7 hg7 hrow
            case measure => simp [intOf]; omega
          · have Hown := Lib.hid hown
            generalize (row g k)[t] = X at hcx hgt hsucc hX0
            clear hown hnums
            go_wp2
            go_roundw
            case rel => exact ⟨t + 1, by omega, by go_num, by rw [hsucc.out, if_neg hgt]; exact Hown.out, hbel, Hnums.out⟩
            case measure => simp [intOf]; omega
        · obtain rfl : t = (row g k).length := by omega
          have Hown := Lib.hid hown
          clear hown hnums
          go_wp2
          go_roundw
          case rel =>
            refine ⟨k + 1, by omega, by go_num, ?_, hbel⟩
            rw [edN_succ, ← HEND.out]
            exact Hown.out
          case measure => simp [intOf]; omega
    · obtain rfl : k = g.length := by omega
      go_wp2
      go_ret
      exact ⟨_, rfl, Hown.out.base (by omega), hbel⟩

end Go.Proofs.YtfokiijcpkhllaaDoor

/- Walk: the program's edges; two vertices made no neighbours. -/
namespace Go.Proofs.YtfokiijcpkhllaaDoor
end Go.Proofs.YtfokiijcpkhllaaDoor

/- Walk: the program's bridges. -/
namespace Go.Proofs.YtfokiijcpkhllaaDoor
open Go.RowKit

theorem bits_all {n : Nat} (hn : n ≤ 16) {W : Nat} (hW : W = 2 ^ n - 1) : bitsOf W = List.range n := by
  have h16 : W < 65536 := by
    have : 2 ^ n ≤ 2 ^ 16 := Nat.pow_le_pow_right (by decide) hn
    have h2 : (2 : Nat) ^ 16 = 65536 := by decide
    have : 0 < 2 ^ n := Nat.pow_pos (by decide)
    omega
  refine rising_ext _ _ (bitsOf_rising _) List.pairwise_lt_range fun i => ?_
  rw [mem_left h16, hW, testBit_firstOf]
  simp
theorem all_lt {n : Nat} (hn : n ≤ 16) {W : Nat} (hW : W = 2 ^ n - 1) : W < 65536 ∧ (∀ i, W.testBit i = true → i < n) ∧ ∀ i, i < n → W.testBit i = true := by
  have : 2 ^ n ≤ 2 ^ 16 := Nat.pow_le_pow_right (by decide) hn
  have h2 : (2 : Nat) ^ 16 = 65536 := by decide
  have : 0 < 2 ^ n := Nat.pow_pos (by decide)
  refine ⟨by omega, fun i hi => ?_, fun i hi => ?_⟩
  · rw [hW, testBit_firstOf] at hi; simpa using hi
  · rw [hW, testBit_firstOf]; simpa using hi
theorem PrsO.otherT {w w' : World} {base base2 : Nat} {ev v : Value} {l : List (Nat × Nat)} {n : Nat} {xs : List Value} (h : PrsO w base ev l) (ho : w.ownsRow base2 64 1 v n xs) (hg : w.grownBy w' v.ownBlock) : PrsO w' base ev l := by
  obtain ⟨vals, h1, h2, h3⟩ := h
  exact ⟨vals, h1, ownsRow_other h2 ho hg (by decide), fun j hj => (h3 j hj).other ho hg (by decide)⟩
theorem PrsO.keptO {w w' : World} {base base2 : Nat} {ev v : Value} {l : List (Nat × Nat)} {n : Nat} {xs : List Value} (h : PrsO w base ev l) (ho : w.ownsRow base2 32 1 v n xs) (hg : w.grownBy w' v.ownBlock) (hne : ∀ b, ev.ownBlock = some b → v.ownBlock ≠ some b) : PrsO w' base ev l := by
  obtain ⟨vals, h1, h2, h3⟩ := h
  refine ⟨vals, h1, h2.kept hg ?_, fun j hj => (h3 j hj).other ho hg (by decide)⟩
  cases hb : ev.ownBlock with
  | none => exact .inl rfl
  | some b => exact .inr fun e => hne b hb e.symm

/-- What the loop over the edges carries. -/
structure BrI (w wr : World) (x ev ov : Value) (B Bx Be : Nat) (n : Nat) (E : Nat → Nat → Bool) (t : Nat) : Prop where
  net : wr.ownsRow Bx 64 1 x n ((indN n E).map u32v)
  edg : PrsO wr Be ev (edN n E n)
  out : PrsO wr B ov (brdL n E ((edN n E n).take t))
  far : ∀ b, ev.ownBlock = some b → ov.ownBlock ≠ some b
  bel : Below w.heap.size w wr
  tab : Tab wr
  tpos : 0 < w.heap.size
  b1 : w.heap.size ≤ B
  b2 : w.heap.size ≤ Bx
  b3 : B ≤ wr.heap.size

theorem BrI.next {w wr wx : World} {x ev ov : Value} {B Bx Be n : Nat} {E : Nat → Nat → Bool} {t : Nat} (h : BrI w wr x ev ov B Bx Be n E t) (hb : Below wr.heap.size wr wx) : BrI w wx x ev ov B Bx Be n E t :=
  ⟨ownsRow_below h.net hb, h.edg.below hb, h.out.below hb, h.far, h.bel.trans (hb.mono h.bel.size), h.tab.keep hb, h.tpos, h.b1, h.b2, Nat.le_trans h.b3 hb.size⟩
/-- While an edge is cut. -/
structure BrC (w wr : World) (x ev ov : Value) (B Bx Be : Nat) (n : Nat) (E : Nat → Nat → Bool) (l : List (Nat × Nat)) (F : Nat → Nat → Bool) : Prop where
  net : wr.ownsRow Bx 64 1 x n ((indN n F).map u32v)
  edg : PrsO wr Be ev (edN n E n)
  out : PrsO wr B ov l
  far : ∀ b, ev.ownBlock = some b → ov.ownBlock ≠ some b
  bel : Below w.heap.size w wr
  tab : Tab wr
  tpos : 0 < w.heap.size
  b1 : w.heap.size ≤ B
  b2 : w.heap.size ≤ Bx
  b3 : B ≤ wr.heap.size
theorem BrC.next {w wr wx : World} {x ev ov : Value} {B Bx Be n : Nat} {E F : Nat → Nat → Bool} {l : List (Nat × Nat)} (h : BrC w wr x ev ov B Bx Be n E l F) (hb : Below wr.heap.size wr wx) : BrC w wx x ev ov B Bx Be n E l F :=
  ⟨ownsRow_below h.net hb, h.edg.below hb, h.out.below hb, h.far, h.bel.trans (hb.mono h.bel.size), h.tab.keep hb, h.tpos, h.b1, h.b2, Nat.le_trans h.b3 hb.size⟩
theorem BrC.turn {w wr wx : World} {x ev ov : Value} {B Bx Be n : Nat} {E F F' : Nat → Nat → Bool} {l : List (Nat × Nat)} (h : BrC w wr x ev ov B Bx Be n E l F) (ho : wx.ownsRow Bx 64 1 x n ((indN n F').map u32v)) (hg : wr.grownBy wx x.ownBlock) : BrC w wx x ev ov B Bx Be n E l F' :=
  ⟨ho, h.edg.otherT h.net hg, h.out.otherT h.net hg, h.far, below_grown h.bel h.net hg h.b2 h.bel.size, h.tab.grownP hg (fun e => by
    have e' : x.ownBlock = some 0 := e.symm
    have := (h.net.lt _ e').1
    have := h.b2
    have := h.tpos
    omega), h.tpos, h.b1, h.b2, Nat.le_trans h.b3 hg.size⟩
theorem BrC.put {w wr wx : World} {x ev ov rv : Value} {B Bx Be n b7 c7 : Nat} {E F : Nat → Nat → Bool} {l : List (Nat × Nat)} {e : Nat × Nat} {vals : List Value} (h : BrC w wr x ev ov B Bx Be n E l F) (hv : vals.length = l.length) (ho : wr.ownsRow B 32 1 ov l.length vals) (hr : ∀ j, j < l.length → Nums wr 2 .i64 (vals.getD j undef) (row (prsL l) j))
    (hn : Nums wr 2 .i64 rv [(e.1 : Int), (e.2 : Int)]) (ho' : wx.ownsRow B 32 1 (.slice (some ⟨b7, 0, none⟩) (l.length + 1) c7) (l.length + 1) (vals ++ [rv])) (hg : wr.grownBy wx ov.ownBlock) (hb7 : ov.ownBlock = some b7 ∨ wr.heap.size < b7) :
    BrC w wx x ev (.slice (some ⟨b7, 0, none⟩) (l.length + 1) c7) B Bx Be n E (l ++ [e]) F := by
  refine ⟨ownsRow_other h.net ho hg (by decide), h.edg.keptO ho hg h.far, PrsO.snoc hv ho hr ho' hg hn, fun b hb he => ?_, below_grown h.bel ho hg h.b1 h.bel.size, h.tab.grownP hg (fun e => by
    have e' : ov.ownBlock = some 0 := e.symm
    have := (ho.lt _ e').1
    have := h.b1
    have := h.tpos
    omega), h.tpos, h.b1, h.b2, Nat.le_trans h.b3 hg.size⟩
  have e2 : b7 = b := by simpa [Value.ownBlock] using he
  subst e2
  rcases hb7 with h7 | h7
  · exact h.far _ hb h7
  · obtain ⟨vals2, _, h2, _⟩ := h.edg
    have := (h2.lt _ hb).2
    omega

end Go.Proofs.YtfokiijcpkhllaaDoor

/- Walk: a graph out of its edges (the reference's GraphOf), for the draws of the laws. -/
namespace Go.Proofs.YtfokiijcpkhllaaDoor
open Go.RowKit

def SymI (E : Nat → Nat → Bool) : Prop := (∀ r j, E r j = true → E j r = true) ∧ ∀ r, E r r = false
theorem symI_none : SymI fun _ _ => false := ⟨fun _ _ h => h, fun _ => rfl⟩
theorem symI_link {E : Nat → Nat → Bool} (h : SymI E) {u v : Nat} (huv : u ≠ v) : SymI fun r j => E r j || (r == u && j == v) || (r == v && j == u) := by
  refine ⟨fun r j hE => ?_, fun r => ?_⟩
  · simp only [Bool.or_eq_true, Bool.and_eq_true, beq_iff_eq] at hE ⊢
    rcases hE with (hE | ⟨h1, h2⟩) | ⟨h1, h2⟩
    · exact .inl (.inl (h.1 _ _ hE))
    · exact .inr ⟨h2, h1⟩
    · exact .inl (.inr ⟨h2, h1⟩)
  · have h1 : ¬ (r = u ∧ r = v) := fun ⟨a, b⟩ => huv (a ▸ b)
    have h2 : ¬ (r = v ∧ r = u) := fun ⟨a, b⟩ => huv (b ▸ a)
    simp only [h.2 r, Bool.false_or, Bool.or_eq_false_iff, Bool.and_eq_false_iff, beq_eq_false_iff_ne]
    refine ⟨?_, ?_⟩
    · by_cases e : r = u
      · exact .inr fun e2 => h1 ⟨e, e2⟩
      · exact .inl e
    · by_cases e : r = v
      · exact .inr fun e2 => h2 ⟨e, e2⟩
      · exact .inl e

structure GoI (w wr : World) (B b6 n : Nat) (gp : Option Addr) (gc : Nat) (Be : Nat) (ev : Value) (l : List (Nat × Nat)) (E : Nat → Nat → Bool) : Prop where
  sg : SG wr B (.agg #[.slice gp n gc]) (matG n E)
  res : Box wr w.heap.size 29 (.slice none 0 0)
  box : Box wr b6 29 (.slice gp n gc)
  prs : PrsO wr Be ev l
  bel : Below w.heap.size w wr
  own : ∀ b, (Value.slice gp n gc).ownBlock = some b → w.heap.size < b ∧ b < b6
  far : ∀ b, ev.ownBlock = some b → b < w.heap.size
  hB : w.heap.size < B
  h6 : w.heap.size < b6
theorem GoI.next {w wr wx : World} {B b6 n : Nat} {gp : Option Addr} {gc Be : Nat} {ev : Value} {l : List (Nat × Nat)} {E : Nat → Nat → Bool} (h : GoI w wr B b6 n gp gc Be ev l E) (hb : Below wr.heap.size wr wx) : GoI w wx B b6 n gp gc Be ev l E :=
  ⟨h.sg.below hb, h.res.keep hb, h.box.keep hb, h.prs.below hb, h.bel.trans (hb.mono h.bel.size), h.own, h.far, h.hB, h.h6⟩
theorem GoI.link {w wr w2 : World} {B b6 n : Nat} {gp : Option Addr} {gc Be : Nat} {ev : Value} {l : List (Nat × Nat)} {E E' : Nat → Nat → Bool} (h : GoI w wr B b6 n gp gc Be ev l E)
    (hs : SG w2 B (.agg #[.slice gp n gc]) (matG n E')) (hg : wr.grownBy w2 (Value.slice gp n gc).ownBlock) : GoI w (w2.setCell ⟨b6, 0, none⟩ (.slice gp n gc)) B b6 n gp gc Be ev l E' := by
  have hbox := h.box.grown hg (fun e => by have := (h.own _ e.symm).2; omega)
  have hres := h.res.grown hg (fun e => by have := (h.own _ e.symm).1; omega)
  have hsg := h.sg
  have hl := matG_length n E
  obtain ⟨u0, vals, e1, hv, ho, hr⟩ := hsg
  cases e1
  rw [hl] at hv ho hr
  have hprs := h.prs.keptO ho hg (fun b hb e => by have h1 := h.far b hb; have h2 := (h.own b e).1; omega)
  have h6 := h.h6
  have hbel : Below w.heap.size w w2 := ⟨hg.os.trans h.bel.os, hg.tape.trans h.bel.tape, hg.output.trans h.bel.output, Nat.le_trans h.bel.size hg.size, fun k hk => (hg.block k (Nat.lt_of_lt_of_le hk h.bel.size) (fun e => by have := (h.own k e.symm).1; omega)).trans (h.bel.block k hk)⟩
  refine ⟨hs.setBox hbox _, hres.setOther (by show w.heap.size ≠ b6; omega) _, hbox.set _, ?_, hbel.setCell (p := ⟨b6, 0, none⟩) (Nat.le_of_lt h6) _, h.own, h.far, h.hB, h6⟩
  obtain ⟨vals2, q1, q2, q3⟩ := hprs
  exact ⟨vals2, q1, ownsRow_setBox q2 hbox (by decide) _, fun j hj => (q3 j hj).setBox hbox (by decide) _⟩

set_option maxRecDepth 100000 in
set_option maxHeartbeats 4000000 in
theorem specGraphOf_any (ev : Value) (z : Int) (n Be : Nat) (l : List (Nat × Nat)) (hz : z = n) (hn1 : 1 ≤ n) (hn16 : n ≤ 16) (hl : ∀ e ∈ l, e.1 < e.2 ∧ e.2 < n) (h120 : l.length ≤ 120) (w : World) (hp : PrsO w Be ev l) :
    Calls Tryd.prog 37 #[.int .i64 z, ev] w fun e w' => ∃ (u : Value) (E : Nat → Nat → Bool), e = .returned (.tuple #[u, .bool true]) ∧ SymI E ∧ SG w' w.heap.size u (matG n E) ∧ Below w.heap.size w w' := by
  subst hz
  obtain ⟨ep, ec, rfl⟩ := hp.shape
  have HP := Lib.hid hp
  have HL := Lib.hid hl
  have hd1 : dec ((1 : Int) ≤ (n : Int) ∧ (n : Int) ≤ 16) = true := dec_true ⟨by omega, by omega⟩
  have HD1 := Lib.hid hd1
  have HR := Lib.hid (Box.new w (.slice none 0 0) 29)
  have HB1 := Lib.hid (below_alloc w (.cells #[.slice none 0 0] 29))
  have HFAR : Hid (∀ b, (Value.slice ep l.length ec).ownBlock = some b → b < w.heap.size) := Lib.hid (fun b hb => by
    obtain ⟨vals, _, h2, _⟩ := hp
    exact (h2.lt b hb).2)
  clear hp hl hd1
  go_enter Tryd.func37, Tryd.ntmps37
  go_upto_region 4 with (first
    | (go_at_call 102; refine (l1Empty_any _ n rfl (by omega) _).mono ?_; rintro e w2 ⟨u, rfl, hs2, hb2⟩; obtain ⟨gp, gc, rfl⟩ := hs2.shape; rw [List.length_replicate] at hs2 ⊢)
    | (go_at_call 101; refine (l1In_any _ _ _ _).mono ?_; rintro e w1 ⟨he, rfl⟩; rw [HD1.out] at he; subst he))
  have hempty : matG n (fun _ _ => false) = List.replicate n [] := matG_none n fun _ _ _ _ => rfl
  rw [← hempty] at hs2
  obtain ⟨w3, hw3⟩ : ∃ w3, w3 = w2.alloc (.cells #[.slice gp n gc] 29) := ⟨_, rfl⟩
  rw [← hw3]
  have hb23 : Below w2.heap.size w2 w3 := by rw [hw3]; exact below_alloc _ _
  have s1 : (w.alloc (.cells #[.slice none 0 0] 29)).heap.size = w.heap.size + 1 := size_alloc _ _
  have s2 := hb2.size
  have START : Hid (GoI w w3 (w.heap.size + 1) w2.heap.size n gp gc Be (.slice ep l.length ec) l (fun _ _ => false)) := Lib.hid
    { sg := by rw [← s1]; exact hs2.below hb23
      res := (HR.out.keep hb2).keep hb23
      box := by rw [hw3]; exact Box.new _ _ _
      prs := ((HP.out.below HB1.out).below hb2).below hb23
      bel := (HB1.out.trans (hb2.mono HB1.out.size)).trans (hb23.mono (Nat.le_trans HB1.out.size s2))
      own := fun b hb => by
        obtain ⟨u0, vals, e1, hv, ho, hr⟩ := hs2
        cases e1
        have := ho.lt b hb
        omega
      far := HFAR.out
      hB := Nat.lt_succ_self _
      h6 := by omega }
  generalize w2.heap.size = b6 at START
  clear hb2 hs2 hw3 hb23 s1 s2 hempty HR HB1 HP
  go_upto_region 4 with fail
  go_wp2
  go_loopw [7] (fun i wr => ∃ (t : Nat) (E : Nat → Nat → Bool), i = .int .i64 t ∧ t ≤ l.length ∧ Hid (SymI E) ∧ Hid (GoI w wr (w.heap.size + 1) b6 n gp gc Be (.slice ep l.length ec) l E)) (fun i _ => l.length - (intOf i).toNat)
  case atStart => exact ⟨0, _, rfl, Nat.zero_le _, Lib.hid symI_none, START⟩
  case round =>
    clear START
    obtain ⟨t, E, rfl, ht, HSE, HG⟩ := hrel
    by_cases hlt : t < l.length
    · obtain ⟨eb, eo, rp, rc, he, hce, hne⟩ := HG.out.prs.get hlt
      subst he
      have hmem := HL.out _ (List.getElem_mem hlt)
      obtain ⟨⟨a, b⟩, hab⟩ : ∃ e : Nat × Nat, e = l[t] := ⟨_, rfl⟩
      rw [← hab] at hmem hne
      obtain ⟨hlt1, hlt2⟩ := hmem
      simp only at hlt1 hlt2 hne
      have HNE := Lib.hid hne
      have hset : SetIn (n : Int) [(a : Int), (b : Int)] := ⟨fun x hx => by
        simp only [List.mem_cons, List.not_mem_nil, or_false] at hx
        rcases hx with rfl | rfl <;> omega, by simp; omega⟩
      have HSD := Lib.hid (dec_true hset)
      clear hne hab hset
      go_upto_region 9 with (go_at_call 103; refine (l1Set_any _ [(a : Int), (b : Int)] n (by omega) (by omega) _ HNE.out).mono ?_; rintro e w5 ⟨he, hb5⟩; rw [HSD.out] at he; subst he)
      have HG5 := Lib.hid (HG.out.next hb5)
      have hce5 := hb5.at' hce
      have hne5 := HNE.out.below hb5
      obtain ⟨rb, ro, rfl, hc0⟩ := hne5.get (k := 0) (by simp)
      obtain ⟨_, _, e1, hc1⟩ := hne5.get (k := 1) (by simp)
      cases e1
      simp only [List.getElem_cons_zero, List.getElem_cons_succ, Nat.add_zero] at hc0 hc1
      have huv : a ≠ b := by omega
      have hlk : ∀ wz, wz = w5.drew → Calls Tryd.prog 104 #[.agg #[.slice gp n gc], .int .i64 (a : Int), .int .i64 (b : Int)] wz fun e w' => e = .returned (.agg #[.slice gp n gc]) ∧ SG w' (w.heap.size + 1) (.agg #[.slice gp n gc]) (matG n (fun r j => E r j || (r == a && j == b) || (r == b && j == a))) ∧ wz.grownBy w' (Value.slice gp n gc).ownBlock := by
        rintro wz rfl
        have hml := matG_length n E
        have := l1Link_any gp gc (matG n E) a b a b (w.heap.size + 1) rfl rfl (by rw [hml]; omega) (by rw [hml]; omega) (fun j _ => Nat.le_trans (matG_row_le j) (by omega)) w5.drew (by rw [hml]; exact HG5.out.sg.below (below_dN (Below.refl _ _) 1))
        rw [hml, link_matG (by omega) hlt2 huv] at this
        exact this
      have Hlk := Lib.hid hlk
      have hb6c := HG5.out.box.cell
      have hb6f := HG5.out.box.free
      have HSN := Lib.hid (symI_link HSE.out huv)
      clear hlk hne5 hb5 hce
      go_region_law (first | (go_simp; go_at_call 104; refine (Hlk.out _ rfl).mono ?_; rintro e w6 ⟨rfl, hs6, hg6⟩; have hg6' : w5.grownBy w6 (Value.slice gp n gc).ownBlock := ⟨hg6.os, (hg6.tape).trans rfl, hg6.output, hg6.size, hg6.block⟩; have hbx := HG5.out.box.grown hg6' (fun e => by have := (HG5.out.own _ e.symm).2; omega); have hc6 := hbx.cell; have hf6 := hbx.free))
      all_goals go_wp2
      all_goals go_roundw
      all_goals first
        | exact ⟨t + 1, _, by go_num, by omega, HSN, Lib.hid (HG5.out.link hs6 hg6')⟩
        | (simp [intOf]; omega)
    · obtain rfl : t = l.length := by omega
      have hb6c := HG.out.box.cell
      obtain ⟨nc, nf, _, _⟩ := HG.out.res
      go_wp2
      refine bodyPost_ret (v := .tuple #[.agg #[.slice gp n gc], .bool true]) (by simp [results, Tryd.results37, go_sem, nc]) rfl ⟨_, E, rfl, HSE.out, SG.base (HG.out.sg.setBox HG.out.res _) (Nat.le_succ _), ?_⟩
      exact HG.out.bel.setCell (p := ⟨w.heap.size, 0, none⟩) (Nat.le_refl _) _

end Go.Proofs.YtfokiijcpkhllaaDoor
