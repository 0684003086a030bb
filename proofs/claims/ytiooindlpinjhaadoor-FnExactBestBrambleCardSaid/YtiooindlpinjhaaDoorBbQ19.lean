/- Walks: SameGraph, of both. -/
import Derived.Test.YtiooindlpinjhaaDoorBbQ4
import Derived.Test.YtiooindlpinjhaaDoorBbQ5
import Derived.Deep.DeepCutAuto
import Derived.Test.YtiooindlpinjhaaDoorBbQ10
import Derived.Test.YtiooindlpinjhaaDoorBbQ7
import Derived.Deep.RegionHeld3
import Derived.Test.YtiooindlpinjhaaDoorBbQ12
import Derived.Test.YtiooindlpinjhaaDoorBbQ18
import Derived.Test.YtiooindlpinjhaaDoorBbQ11
import Derived.Deep.RegionWith
import Derived.Test.YtiooindlpinjhaaDoorBbQ13
import Derived.Test.YtiooindlpinjhaaDoorBbQ9
import Derived.Test.YtiooindlpinjhaaDoorBbQ3
import Derived.Test.YtiooindlpinjhaaDoorBbQ2
import Derived.Test.YtiooindlpinjhaaDoorBbQ14
import Derived.Test.YtiooindlpinjhaaDoorBbQ15
namespace Go.Proofs.YtiooindlpinjhaaDoor
open Go.RowKit

set_option maxRecDepth 100000 in
set_option maxHeartbeats 1000000 in
theorem l1Same_any (u v : Value) (xs ys : List Int) (w : World) (hx : Nums w 2 .i64 u xs) (hy : Nums w 2 .i64 v ys) :
    Calls Tryd.prog 86 #[u, v] w fun e w' => e = .returned (.bool (dec (xs = ys))) ∧ ∃ q, w' = w.drewN q := by
  obtain ⟨p, c, rfl, hp, _, hn, hat⟩ := hx
  obtain ⟨p', c', rfl, hp', _, hn', hat'⟩ := hy
  by_cases hl : xs.length = ys.length
  case neg =>
    have hl' : ((xs.length : Int) != (ys.length : Int)) = true := by simp; omega
    go_enter Tryd.func86, Tryd.ntmps86
    go_wp2
    go_ret
    exact ⟨ret_bool (false_dec fun h => hl (by rw [h])), 0, rfl⟩
  have Hl := Lib.hid hl
  have hl' : ((xs.length : Int) != (ys.length : Int)) = false := by simp; omega
  clear hl
  go_enter Tryd.func86, Tryd.ntmps86
  go_wp2
  go_loopw [5] (fun i wr => ∃ k : Nat, k ≤ xs.length ∧ i = .int .i64 k ∧ xs.take k = ys.take k ∧ ∃ q, wr = w.drewN q) (fun i _ => xs.length - (intOf i).toNat)
  case atStart => exact ⟨0, Nat.zero_le _, rfl, by simp, 0, rfl⟩
  case round =>
    obtain ⟨k, hk, rfl, heq, q, rfl⟩ := hrel
    have Heq := Lib.hid heq
    clear heq
    by_cases hlt : k < xs.length
    · have hlt' : k < ys.length := by have := Hl.out; omega
      obtain ⟨b, o, rfl, hcell⟩ := hat.num hlt
      obtain ⟨b', o', rfl, hcell'⟩ := hat'.num hlt'
      clear hat hat'
      have e0 : (0 : Int) ≤ (k : Int) := by omega
      have e1 : (k : Int) < (xs.length : Int) := by omega
      have e2 : (k : Int) < (ys.length : Int) := by omega
      by_cases he : xs[k] = ys[k]
      · have he' : (xs[k] != ys[k]) = false := by simpa using he
        have He := Lib.hid he
        clear he
        go_wp2
        go_quiet (fail)
        go_wp2
        go_roundw
        case rel => exact ⟨k + 1, by omega, by go_num, by rw [take_snoc xs k hlt, take_snoc ys k hlt', Heq.out, He.out], _, rfl⟩
        case measure => simp [intOf]; omega
      · have he' : (xs[k] != ys[k]) = true := by simpa using he
        have He := Lib.hid he
        clear he
        go_wp2
        go_quiet (fail)
        go_wp2
        go_ret
        exact ⟨ret_bool (false_dec fun h => He.out (by subst h; rfl)), _, World.drewN_drewN _ _ _⟩
    · obtain rfl : k = xs.length := by omega
      go_wp2
      go_ret
      refine ⟨ret_bool (true_dec ?_), q, rfl⟩
      have h := Heq.out
      rwa [List.take_length, Hl.out, List.take_length] at h

end Go.Proofs.YtiooindlpinjhaaDoor

/- Walks: how the reference says that a vertex may be pruned. -/
namespace Go.Proofs.YtiooindlpinjhaaDoor
open Go.RowKit

theorem owns_shapeA {w : World} {base : Nat} {E : TypeId} {size n : Nat} {v : Value} {xs : List Value} (h : w.ownsRow base E size v n xs) : ∃ p c, v = .slice p n c := by
  rcases h.2 with ⟨rfl, h0⟩ | ⟨b, c, _, rfl, _⟩
  · exact ⟨none, 0, by rw [h0]⟩
  · exact ⟨_, _, rfl⟩

def nearT (g : List (List Int)) (L : List Int) (k : Nat) (b : Int) (t : Nat) : List Int := ((row g k).take t).filter fun x => decide (x ≠ b ∧ x ∈ L)
theorem nearT_succ {g : List (List Int)} {L : List Int} {k : Nat} {b : Int} {t : Nat} (h : t < (row g k).length) :
    nearT g L k b (t + 1) = if (row g k)[t] ≠ b ∧ (row g k)[t] ∈ L then nearT g L k b t ++ [(row g k)[t]] else nearT g L k b t := by
  unfold nearT
  rw [take_snoc _ t h, List.filter_append]
  split
  · rename_i hc; rw [List.filter_cons_of_pos (by simpa using hc)]; rfl
  · rename_i hc; rw [List.filter_cons_of_neg (by simpa using hc)]; simp
theorem nearT_len (g : List (List Int)) (L : List Int) (k : Nat) (b : Int) (t : Nat) : (nearT g L k b t).length ≤ (row g k).length :=
  Nat.le_trans (List.length_filter_le _ _) (by rw [List.length_take]; omega)
theorem nearT_end (g : List (List Int)) (L : List Int) (k : Nat) (b : Int) : nearT g L k b (row g k).length = nearB g L k b := by
  unfold nearT nearB; rw [List.take_length]

end Go.Proofs.YtiooindlpinjhaaDoor

/- Walk: the reference says whether a vertex may be pruned so. -/
namespace Go.Proofs.YtiooindlpinjhaaDoor
open Go.RowKit

theorem cells3 (w : World) (a b c : Value) (T : TypeId) : (w.alloc (.cells #[a, b, c] T)).cell? ⟨w.heap.size, 0, none⟩ = some a ∧ (w.alloc (.cells #[a, b, c] T)).cell? ⟨w.heap.size, 1, none⟩ = some b ∧ (w.alloc (.cells #[a, b, c] T)).cell? ⟨w.heap.size, 2, none⟩ = some c := by
  have := heap_alloc_new w (.cells #[a, b, c] T)
  refine ⟨?_, ?_, ?_⟩ <;> (unfold World.cell?; rw [this]; rfl)

theorem nearB_16 {g : List (List Int)} (hok : GOk g) {L : List Int} {v : Nat} (hv : v < g.length) (b : Int) : (nearB g L v b).length ≤ 16 :=
  Nat.le_trans (nearB_len g L v b) (gOk_row_le hok v hv)

theorem goP_one {g : List (List Int)} {L : List Int} {v : Nat} (hL : ∀ x ∈ L, 0 ≤ x) : GoP g L v (-1) 1 ↔ (nearB g L v (-1)).length = 0 := by
  rw [nearB_nil]
  constructor
  · rintro (⟨_, _, h⟩ | ⟨h, _⟩)
    · intro x hx hr
      rw [Int.toNat_natCast] at h
      exact absurd hr (h x hx)
    · have := hL _ h; omega
  · intro h
    refine .inl ⟨rfl, rfl, fun x hx hr => ?_⟩
    rw [Int.toNat_natCast] at hr
    have := h x hx hr
    have := hL x hx
    omega
theorem goP_two {g : List (List Int)} (hok : GOk g) {L : List Int} {v b : Nat} (hv : v < g.length) (hb : (b : Int) ∈ L) (hvb : b ≠ v) :
    GoP g L v b 2 ↔ (b : Int) ∈ row g v ∧ (nearB g L v b).length = 0 := by
  rw [nearB_nil]
  constructor
  · rintro (⟨h, _⟩ | ⟨_, _, h⟩)
    · omega
    · rcases h with ⟨_, h⟩ | ⟨h, _⟩ | ⟨h, _⟩
      · simp only [Int.toNat_natCast] at h
        exact ⟨(h _ hb).2 rfl, fun x hx hr => (h x hx).1 hr⟩
      · omega
      · omega
  · rintro ⟨h1, h2⟩
    refine .inr ⟨hb, by omega, .inl ⟨rfl, fun x hx => ?_⟩⟩
    rw [Int.toNat_natCast]
    exact ⟨fun hr => h2 x hx hr, fun e => by subst e; exact h1⟩
theorem goP_three {g : List (List Int)} (hok : GOk g) {L : List Int} {v b : Nat} (hv : v < g.length) (hbl : b < g.length) (hvL : (v : Int) ∈ L) (hb : (b : Int) ∈ L) (hvb : b ≠ v) :
    GoP g L v b 3 ↔ (b : Int) ∉ row g v ∧ nearB g L v b = nearB g L b v := by
  rw [nearB_same hok hv hbl hvL hb (fun e => hvb e.symm)]
  constructor
  · rintro (⟨h, _⟩ | ⟨_, _, h⟩)
    · omega
    · rcases h with ⟨h, _⟩ | ⟨_, h⟩ | ⟨h, _⟩
      · omega
      · simpa only [Int.toNat_natCast] using h
      · omega
  · intro h
    exact .inr ⟨hb, by omega, .inr (.inl ⟨rfl, by simpa only [Int.toNat_natCast] using h⟩)⟩
theorem goP_four {g : List (List Int)} (hok : GOk g) {L : List Int} {v b : Nat} (hv : v < g.length) (hbl : b < g.length) (hvL : (v : Int) ∈ L) (hb : (b : Int) ∈ L) (hvb : b ≠ v) :
    GoP g L v b 4 ↔ (b : Int) ∈ row g v ∧ nearB g L v b = nearB g L b v := by
  rw [nearB_same hok hv hbl hvL hb (fun e => hvb e.symm)]
  constructor
  · rintro (⟨h, _⟩ | ⟨_, _, h⟩)
    · omega
    · rcases h with ⟨h, _⟩ | ⟨h, _⟩ | ⟨_, h⟩
      · omega
      · omega
      · simpa only [Int.toNat_natCast] using h
  · intro h
    exact .inr ⟨hb, by omega, .inr (.inr ⟨rfl, by simpa only [Int.toNat_natCast] using h⟩)⟩
theorem goP_self {g : List (List Int)} {L : List Int} {v k : Int} (hk : 2 ≤ k) : ¬ GoP g L v v k := by
  rintro (⟨h, _⟩ | ⟨_, h, _⟩)
  · omega
  · exact h rfl

end Go.Proofs.YtiooindlpinjhaaDoor

/- Walks: two vertices made no neighbours; the program's edges. -/
namespace Go.Proofs.YtiooindlpinjhaaDoor
open Go.RowKit

end Go.Proofs.YtiooindlpinjhaaDoor

/- Walk: the program's edges; two vertices made no neighbours. -/
namespace Go.Proofs.YtiooindlpinjhaaDoor
end Go.Proofs.YtiooindlpinjhaaDoor

/- Walk: the program's bridges. -/
namespace Go.Proofs.YtiooindlpinjhaaDoor
open Go.RowKit

theorem bits_all {n : Nat} (hn : n ≤ 16) {W : Nat} (hW : W = 2 ^ n - 1) : bitsOf W = List.range n := by
  have h16 : W < 65536 := by
    have : 2 ^ n ≤ 2 ^ 16 := Nat.pow_le_pow_right (by decide) hn
    have h2 : (2 : Nat) ^ 16 = 65536 := by decide
    have : 0 < 2 ^ n := Nat.pow_pos (by decide)
    omega
  refine rising_ext _ _ (bitsOf_rising _) List.pairwise_lt_range fun i => ?_
  rw [mem_left h16, hW, testBit_firstOf]
  simp
theorem all_lt {n : Nat} (hn : n ≤ 16) {W : Nat} (hW : W = 2 ^ n - 1) : W < 65536 ∧ (∀ i, W.testBit i = true → i < n) ∧ ∀ i, i < n → W.testBit i = true := by
  have : 2 ^ n ≤ 2 ^ 16 := Nat.pow_le_pow_right (by decide) hn
  have h2 : (2 : Nat) ^ 16 = 65536 := by decide
  have : 0 < 2 ^ n := Nat.pow_pos (by decide)
  refine ⟨by omega, fun i hi => ?_, fun i hi => ?_⟩
  · rw [hW, testBit_firstOf] at hi; simpa using hi
  · rw [hW, testBit_firstOf]; simpa using hi
theorem PrsO.otherT {w w' : World} {base base2 : Nat} {ev v : Value} {l : List (Nat × Nat)} {n : Nat} {xs : List Value} (h : PrsO w base ev l) (ho : w.ownsRow base2 71 1 v n xs) (hg : w.grownBy w' v.ownBlock) : PrsO w' base ev l := by
  obtain ⟨vals, h1, h2, h3⟩ := h
  exact ⟨vals, h1, ownsRow_other h2 ho hg (by decide), fun j hj => (h3 j hj).other ho hg (by decide)⟩
theorem PrsO.keptO {w w' : World} {base base2 : Nat} {ev v : Value} {l : List (Nat × Nat)} {n : Nat} {xs : List Value} (h : PrsO w base ev l) (ho : w.ownsRow base2 26 1 v n xs) (hg : w.grownBy w' v.ownBlock) (hne : ∀ b, ev.ownBlock = some b → v.ownBlock ≠ some b) : PrsO w' base ev l := by
  obtain ⟨vals, h1, h2, h3⟩ := h
  refine ⟨vals, h1, h2.kept hg ?_, fun j hj => (h3 j hj).other ho hg (by decide)⟩
  cases hb : ev.ownBlock with
  | none => exact .inl rfl
  | some b => exact .inr fun e => hne b hb e.symm

/-- What the loop over the edges carries. -/
structure BrI (w wr : World) (x ev ov : Value) (B Bx Be : Nat) (n : Nat) (E : Nat → Nat → Bool) (t : Nat) : Prop where
  net : wr.ownsRow Bx 71 1 x n ((indN n E).map u32v)
  edg : PrsO wr Be ev (edN n E n)
  out : PrsO wr B ov (brdL n E ((edN n E n).take t))
  far : ∀ b, ev.ownBlock = some b → ov.ownBlock ≠ some b
  bel : Below w.heap.size w wr
  tab : Tab wr
  tpos : 0 < w.heap.size
  b1 : w.heap.size ≤ B
  b2 : w.heap.size ≤ Bx
  b3 : B ≤ wr.heap.size

theorem BrI.next {w wr wx : World} {x ev ov : Value} {B Bx Be n : Nat} {E : Nat → Nat → Bool} {t : Nat} (h : BrI w wr x ev ov B Bx Be n E t) (hb : Below wr.heap.size wr wx) : BrI w wx x ev ov B Bx Be n E t :=
  ⟨ownsRow_below h.net hb, h.edg.below hb, h.out.below hb, h.far, h.bel.trans (hb.mono h.bel.size), h.tab.keep hb, h.tpos, h.b1, h.b2, Nat.le_trans h.b3 hb.size⟩
/-- While an edge is cut. -/
structure BrC (w wr : World) (x ev ov : Value) (B Bx Be : Nat) (n : Nat) (E : Nat → Nat → Bool) (l : List (Nat × Nat)) (F : Nat → Nat → Bool) : Prop where
  net : wr.ownsRow Bx 71 1 x n ((indN n F).map u32v)
  edg : PrsO wr Be ev (edN n E n)
  out : PrsO wr B ov l
  far : ∀ b, ev.ownBlock = some b → ov.ownBlock ≠ some b
  bel : Below w.heap.size w wr
  tab : Tab wr
  tpos : 0 < w.heap.size
  b1 : w.heap.size ≤ B
  b2 : w.heap.size ≤ Bx
  b3 : B ≤ wr.heap.size
theorem BrC.next {w wr wx : World} {x ev ov : Value} {B Bx Be n : Nat} {E F : Nat → Nat → Bool} {l : List (Nat × Nat)} (h : BrC w wr x ev ov B Bx Be n E l F) (hb : Below wr.heap.size wr wx) : BrC w wx x ev ov B Bx Be n E l F :=
  ⟨ownsRow_below h.net hb, h.edg.below hb, h.out.below hb, h.far, h.bel.trans (hb.mono h.bel.size), h.tab.keep hb, h.tpos, h.b1, h.b2, Nat.le_trans h.b3 hb.size⟩
theorem BrC.turn {w wr wx : World} {x ev ov : Value} {B Bx Be n : Nat} {E F F' : Nat → Nat → Bool} {l : List (Nat × Nat)} (h : BrC w wr x ev ov B Bx Be n E l F) (ho : wx.ownsRow Bx 71 1 x n ((indN n F').map u32v)) (hg : wr.grownBy wx x.ownBlock) : BrC w wx x ev ov B Bx Be n E l F' :=
  ⟨ho, h.edg.otherT h.net hg, h.out.otherT h.net hg, h.far, below_grown h.bel h.net hg h.b2 h.bel.size, h.tab.grownP hg (fun e => by
    have e' : x.ownBlock = some 0 := e.symm
    have := (h.net.lt _ e').1
    have := h.b2
    have := h.tpos
    omega), h.tpos, h.b1, h.b2, Nat.le_trans h.b3 hg.size⟩
theorem BrC.put {w wr wx : World} {x ev ov rv : Value} {B Bx Be n b7 c7 : Nat} {E F : Nat → Nat → Bool} {l : List (Nat × Nat)} {e : Nat × Nat} {vals : List Value} (h : BrC w wr x ev ov B Bx Be n E l F) (hv : vals.length = l.length) (ho : wr.ownsRow B 26 1 ov l.length vals) (hr : ∀ j, j < l.length → Nums wr 2 .i64 (vals.getD j undef) (row (prsL l) j))
    (hn : Nums wr 2 .i64 rv [(e.1 : Int), (e.2 : Int)]) (ho' : wx.ownsRow B 26 1 (.slice (some ⟨b7, 0, none⟩) (l.length + 1) c7) (l.length + 1) (vals ++ [rv])) (hg : wr.grownBy wx ov.ownBlock) (hb7 : ov.ownBlock = some b7 ∨ wr.heap.size < b7) :
    BrC w wx x ev (.slice (some ⟨b7, 0, none⟩) (l.length + 1) c7) B Bx Be n E (l ++ [e]) F := by
  refine ⟨ownsRow_other h.net ho hg (by decide), h.edg.keptO ho hg h.far, PrsO.snoc hv ho hr ho' hg hn, fun b hb he => ?_, below_grown h.bel ho hg h.b1 h.bel.size, h.tab.grownP hg (fun e => by
    have e' : ov.ownBlock = some 0 := e.symm
    have := (ho.lt _ e').1
    have := h.b1
    have := h.tpos
    omega), h.tpos, h.b1, h.b2, Nat.le_trans h.b3 hg.size⟩
  have e2 : b7 = b := by simpa [Value.ownBlock] using he
  subst e2
  rcases hb7 with h7 | h7
  · exact h.far _ hb h7
  · obtain ⟨vals2, _, h2, _⟩ := h.edg
    have := (h2.lt _ hb).2
    omega

end Go.Proofs.YtiooindlpinjhaaDoor

/- Walks: l1Less, l12Bit, l12Set. -/
namespace Go.Proofs.YtiooindlpinjhaaDoor
open Go.RowKit

theorem natInts_atL {l : List Nat} {k : Nat} (h : k < l.length) {h' : k < (natInts l).length} : (natInts l)[k] = ((l[k] : Nat) : Int) := by simp [natInts]
theorem lexL_at : ∀ (i : Nat) (a b : List Nat) (ha : i < a.length) (hb : i < b.length), a.take i = b.take i → a[i] ≠ b[i] → (lexL a b ↔ a[i] < b[i])
  | _, [], _, ha, _, _, _ => by simp at ha
  | _, _ :: _, [], _, hb, _, _ => by simp at hb
  | 0, x :: a, y :: b, _, _, _, hne => by
    simp only [List.getElem_cons_zero] at hne ⊢
    simp only [lexL]
    exact ⟨fun h => h.elim id fun h => absurd h.1 hne, .inl⟩
  | i + 1, x :: a, y :: b, ha, hb, ht, hne => by
    simp only [List.take_succ_cons, List.cons.injEq] at ht
    obtain ⟨rfl, ht⟩ := ht
    simp only [List.getElem_cons_succ] at hne ⊢
    simp only [lexL]
    rw [← lexL_at i a b (by simpa using ha) (by simpa using hb) ht hne]
    exact ⟨fun h => h.elim (fun h => absurd h (Nat.lt_irrefl _)) fun h => h.2, fun h => .inr ⟨trivial, h⟩⟩


theorem i64_and_nat (a b : Nat) (ha : a < 4294967296) (hb : b < 4294967296) : bits BinOp.and IntKind.i64 (a : Int) (b : Int) = ((a &&& b : Nat) : Int) :=
  (bits_nat .i64 32 (by decide) (fun n h1 h2 => by rw [IntKind.wrap_i64]; omega) a b (by omega) (by omega)).1

theorem wrap_pow (v : Nat) (hv : v < 32) : wrap64 (2 ^ v) = ((2 ^ v : Nat) : Int) := by
  have h1 := pow_lt32 v hv
  have e : (2 ^ v : Int) = ((2 ^ v : Nat) : Int) := by simp
  rw [e]
  generalize (2 ^ v : Nat) = t at *
  unfold wrap64
  omega

theorem bit_ne (s k : Nat) (hs : s < 65536) (hk : k < 17) : (bits BinOp.and IntKind.i64 (s : Int) ((2 ^ k : Nat) : Int) != 0) = s.testBit k := by
  have h1 := pow_lt32 k (by omega)
  rw [i64_and_nat _ _ (by omega) h1, Bool.eq_iff_iff]
  constructor
  · intro h
    refine Decidable.byContradiction fun hn => ?_
    have h0 : s &&& 2 ^ k = 0 := Nat.eq_of_testBit_eq fun j => by
      rw [Nat.testBit_and, Nat.testBit_two_pow, Nat.zero_testBit]
      by_cases hj : k = j
      · subst hj
        simpa using hn
      · simp [hj]
    rw [h0] at h
    simp at h
  · intro h
    have h0 : s &&& 2 ^ k ≠ 0 := fun h0 => by
      have := congrArg (fun z => z.testBit k) h0
      simp [h] at this
    simp only [bne_iff_ne, ne_eq]
    omega



def lowB (s k : Nat) : List Nat := (List.range k).filter fun i => s.testBit i
theorem lowB_len (s k : Nat) : (lowB s k).length ≤ k := Nat.le_trans (List.length_filter_le _ _) (by simp)
theorem lowB_yes {s k : Nat} (h : s.testBit k = true) : lowB s (k + 1) = lowB s k ++ [k] := by simp [lowB, List.range_succ, h]
theorem lowB_no {s k : Nat} (h : s.testBit k = false) : lowB s (k + 1) = lowB s k := by simp [lowB, List.range_succ, h]
theorem lowB_end {s k : Nat} (hs : s < 2 ^ k) (hk : k ≤ 32) : lowB s k = bitsOf s :=
  rising_ext _ _ (List.Pairwise.filter _ List.pairwise_lt_range) (bitsOf_rising s) fun x => by
    rw [mem_bitsOf, lowB, List.mem_filter, List.mem_range]
    constructor
    · rintro ⟨a, b⟩
      exact ⟨by omega, b⟩
    · rintro ⟨a, b⟩
      refine ⟨Nat.lt_of_not_le fun hge => ?_, b⟩
      have := Nat.testBit_lt_two_pow (Nat.lt_of_lt_of_le hs (Nat.pow_le_pow_right (by decide) hge) : s < 2 ^ x)
      rw [this] at b
      exact nomatch b


end Go.Proofs.YtiooindlpinjhaaDoor

/- Walks: sets as int64 (the reference's l25Bits, l25Many, l27Low, l27Part). -/
namespace Go.Proofs.YtiooindlpinjhaaDoor
open Go.RowKit

def i64v (s : Nat) : Value := .int .i64 (s : Int)
theorem i64_or_nat (a b : Nat) (ha : a < 4294967296) (hb : b < 4294967296) : bits BinOp.or IntKind.i64 (a : Int) (b : Int) = ((a ||| b : Nat) : Int) :=
  (bits_nat .i64 32 (by decide) (fun n h1 h2 => by rw [IntKind.wrap_i64]; omega) a b (by omega) (by omega)).2
theorem i64_andNot_nat (a b : Nat) (ha : a < 4294967296) (hb : b < 4294967296) : bits BinOp.andNot IntKind.i64 (a : Int) (b : Int) = ((sub a b : Nat) : Int) := by
  have hx : sub a b < 2 ^ 32 := sub_lt32 _ _ ha
  show IntKind.i64.wrap ((BitVec.ofInt 64 (a : Int) &&& ~~~BitVec.ofInt 64 (b : Int)).toNat : Int) = _
  have e1 : (BitVec.ofInt 64 (a : Int)).toNat = a := by rw [BitVec.ofInt_natCast, BitVec.toNat_ofNat]; omega
  have e2 : (BitVec.ofInt 64 (b : Int)).toNat = b := by rw [BitVec.ofInt_natCast, BitVec.toNat_ofNat]; omega
  have e3 : a &&& (2 ^ 64 - 1 - b) = sub a b := Nat.eq_of_testBit_eq fun j => by
    rw [testBit_sub _ _ ha hb, Nat.testBit_and]
    have h64 : b < 2 ^ 64 := by omega
    rw [show 2 ^ 64 - 1 - b = 2 ^ 64 - (b + 1) by omega, Nat.testBit_two_pow_sub_succ h64]
    by_cases hj : j < 64
    · simp [hj]
    · have : a.testBit j = false := Nat.testBit_lt_two_pow (Nat.lt_of_lt_of_le (show a < 2 ^ 32 by omega) (Nat.pow_le_pow_right (by decide) (by omega)))
      simp [this]
  rw [BitVec.toNat_and, BitVec.toNat_not, e1, e2, e3, IntKind.wrap_i64]
  omega
theorem shrB_bit (s k : Nat) (hs : s < 65536) : bits BinOp.and IntKind.i64 ((s : Int) / 2 ^ k) 1 = ((if s.testBit k then 1 else 0 : Nat) : Int) := by
  have e : ((s : Int) / 2 ^ k) = ((s / 2 ^ k : Nat) : Int) := by simp
  rw [e]
  have h1 : s / 2 ^ k < 4294967296 := Nat.lt_of_le_of_lt (Nat.div_le_self _ _) (by omega)
  have := i64_and_nat (s / 2 ^ k) 1 h1 (by decide)
  rw [show ((1 : Nat) : Int) = 1 from rfl] at this
  rw [this, Nat.and_one_is_mod, Nat.testBit_eq_decide_div_mod_eq]
  by_cases h : s / 2 ^ k % 2 = 1
  · simp [h]
  · have : s / 2 ^ k % 2 = 0 := by omega
    simp [this]
theorem bits_deg {n : Nat} (hn : n ≤ 16) {E : Nat → Nat → Bool} {v s : Nat} (hs : s < 65536) (hb : ∀ j, s.testBit j = (decide (j < n) && E v j)) : (bitsOf s).length = degN n E v := by
  have : bitsOf s = (List.range n).filter (E v) := rising_ext _ _ (bitsOf_rising _) (List.Pairwise.filter _ List.pairwise_lt_range) fun x => by
    rw [mem_left hs, hb, List.mem_filter, List.mem_range]
    simp
  rw [this]
  unfold degN
  rw [List.countP_eq_length_filter]

set_option maxRecDepth 100000 in
set_option maxHeartbeats 1000000 in
theorem l25Many_any (z : Int) (s : Nat) (hz : z = s) (hs : s < 65536) (w : World) :
    Calls Tryd.prog 49 #[.int .i64 z] w fun e w' => e = .returned (.int .i64 ((bitsOf s).length : Nat)) ∧ w = w' := by
  subst hz
  have hl := bitsOf_length s
  go_enter Tryd.func49, Tryd.ntmps49
  go_wp2
  go_loopw [0, 3] (fun x c wr => ∃ r k : Nat, x = .int .i64 r ∧ c = .int .i64 k ∧ r < 65536 ∧ k + (bitsOf r).length = (bitsOf s).length ∧ wr = w)
    (fun x _ _ => (bitsOf (intOf x).toNat).length)
  case atStart => exact ⟨s, 0, rfl, rfl, hs, by omega, rfl⟩
  case round =>
    obtain ⟨r, k, rfl, rfl, hr, hk, rfl⟩ := hrel
    by_cases h0 : r = 0
    · subst h0
      rw [bitsOf_zero] at hk
      simp only [List.length_nil, Nat.add_zero] at hk
      subst hk
      clear hl
      go_wp2
      go_ret
      exact ⟨rfl, rfl⟩
    · have hpos : (0 : Int) < (r : Int) := by omega
      have hstep := Lib.hid (bitsOf_step r h0 (by omega))
      have hand : bits BinOp.and IntKind.i64 (r : Int) ((r : Int) - 1) = ((r &&& (r - 1) : Nat) : Int) := by
        have := i64_and_nat r (r - 1) (by omega) (by omega)
        rw [show ((r - 1 : Nat) : Int) = (r : Int) - 1 by omega] at this
        exact this
      have hlt := and_lt16 r (r - 1) hr
      generalize r &&& (r - 1) = t at *
      have hkl : (bitsOf r).length = (bitsOf t).length + 1 := by rw [hstep.out]; rfl
      have HK := Lib.hid hk
      have HKL := Lib.hid hkl
      have hk32 : k ≤ 32 := by omega
      clear hk hkl hl
      go_wp2
      go_roundw
      case rel => exact ⟨t, k + 1, rfl, by go_num, hlt, by have := HK.out; have := HKL.out; omega, trivial⟩
      case measure => have := HKL.out; simp [intOf]; omega

set_option maxRecDepth 100000 in
set_option maxHeartbeats 1000000 in
theorem l27Low_any (z : Int) (s : Nat) (hz : z = s) (h0 : s ≠ 0) (hs : s < 65536) (w : World) :
    Calls Tryd.prog 119 #[.int .i64 z] w fun e w' => e = .returned (.int .i64 ((Lib.ctz 32 s : Nat) : Int)) ∧ w = w' := by
  subst hz
  obtain ⟨h1, h2, h3⟩ := testBit_ctz s h0 (by omega)
  generalize Lib.ctz 32 s = q at *
  have H3 := Lib.hid h3
  have H1 := Lib.hid h1
  have HS := Lib.hid hs
  clear h3 h1 hs h0
  go_enter Tryd.func119, Tryd.ntmps119
  go_wp2
  go_loopw [3] (fun c wr => ∃ k : Nat, c = .int .i64 k ∧ k ≤ q ∧ wr = w)
    (fun c _ => 40 - (intOf c).toNat)
  case atStart => exact ⟨0, rfl, Nat.zero_le _, rfl⟩
  case round =>
    obtain ⟨k, rfl, hk, rfl⟩ := hrel
    have hbit := shrB_bit s k HS.out
    by_cases hlt : k < q
    · have hf := H3.out k hlt
      rw [hf] at hbit
      simp only [Bool.false_eq_true, if_false, Int.natCast_zero] at hbit
      clear hf
      go_wp2
      go_roundw
      case rel => exact ⟨k + 1, by go_num, by omega, trivial⟩
      case measure => simp [intOf]; omega
    · obtain rfl : k = q := by omega
      rw [H1.out] at hbit
      simp only [if_true, Int.natCast_one] at hbit
      go_wp2
      go_ret
      exact ⟨rfl, rfl⟩

end Go.Proofs.YtiooindlpinjhaaDoor

/- Plain: a trail is there just where at most two are odd, and all edges are in one part. -/
namespace Go.Proofs.YtiooindlpinjhaaDoor

theorem countP_le_one {α : Type} {p : α → Bool} : ∀ {l : List α}, (l.Pairwise fun a b => ¬ (p a = true ∧ p b = true)) → l.countP p ≤ 1
  | [], _ => by simp
  | a :: l, h => by
    obtain ⟨h1, h2⟩ := List.pairwise_cons.1 h
    have ih := countP_le_one h2
    rw [List.countP_cons]
    by_cases ha : p a = true
    · have : l.countP p = 0 := List.countP_eq_zero.2 fun b hb hp => h1 b hb ⟨ha, hp⟩
      simp [this, ha]
    · simp [ha]; exact ih
theorem countP_same {α : Type} {p : α → Bool} : ∀ {l : List α} {a b : α}, l.countP p ≤ 1 → a ∈ l → b ∈ l → p a = true → p b = true → a = b
  | [], _, _, _, h, _, _, _ => by simp at h
  | c :: l, a, b, h, ha, hb, hpa, hpb => by
    rw [List.countP_cons] at h
    rcases List.mem_cons.1 ha with rfl | ha2
    · rcases List.mem_cons.1 hb with rfl | hb2
      · rfl
      · exfalso
        have : 0 < l.countP p := List.countP_pos_iff.2 ⟨b, hb2, hpb⟩
        rw [if_pos hpa] at h
        omega
    · rcases List.mem_cons.1 hb with rfl | hb2
      · exfalso
        have : 0 < l.countP p := List.countP_pos_iff.2 ⟨a, ha2, hpa⟩
        rw [if_pos hpb] at h
        omega
      · exact countP_same (by omega) ha2 hb2 hpa hpb
theorem countP_but {p : Nat → Bool} {v : Nat} {l : List Nat} (hn : l.Nodup) : l.countP p ≤ l.countP (fun j => p j && !(j == v)) + 1 := by
  by_cases h : v ∈ l ∧ p v = true
  · rw [countP_cut hn h.1 h.2]
    exact Nat.le_refl _
  · have : l.countP p ≤ l.countP (fun j => p j && !(j == v)) := List.countP_mono_left fun x hx hp => by
      have : x ≠ v := fun e => h ⟨e ▸ hx, e ▸ hp⟩
      simp [hp, this]
    omega
theorem parts_closed {E : Nat → Nat → Bool} (hs : ∀ r j, E r j = true → E j r = true) {L : List Nat} {ps : List (List Nat)} (h : Parts E L ps) : ∀ p ∈ ps, ∀ x ∈ p, ∀ y, y ∈ L → E x y = true → y ∈ p := by
  induction h with
  | done => intro p hp; simp at hp
  | step u L ps h1 ih =>
    intro p hp x hx y hy hE
    rcases List.mem_cons.1 hp with rfl | hp
    · exact mem_partL.2 ⟨hy, .step (mem_partL.1 hx).2 hE hy⟩
    · have hx2 := mem_restL.1 (parts_in h1 p hp x hx)
      refine ih p hp x hx y (mem_restL.2 ⟨hy, fun hr => hx2.2 (.step hr (hs _ _ hE) hx2.1)⟩) hE
theorem parts_cover {E : Nat → Nat → Bool} {L : List Nat} {ps : List (List Nat)} (h : Parts E L ps) : ∀ x ∈ L, ∃ p ∈ ps, x ∈ p := by
  induction h with
  | done => intro x hx; simp at hx
  | step u L ps h1 ih =>
    intro x hx
    by_cases hr : Rch E (· ∈ u :: L) u x
    · exact ⟨_, by simp, mem_partL.2 ⟨hx, hr⟩⟩
    · obtain ⟨p, hp, hxp⟩ := ih x (mem_restL.2 ⟨hx, hr⟩)
      exact ⟨p, by simp [hp], hxp⟩
theorem conn_deg {n : Nat} {E : Nat → Nat → Bool} {p : List Nat} (h : ConnL E p) (hr : p.Pairwise (· < ·)) (hl : 1 < p.length) (hn : ∀ x ∈ p, x < n) : ∃ x ∈ p, 0 < degN n E x := by
  cases p with
  | nil => simp at hl
  | cons a p =>
    cases p with
    | nil => simp at hl
    | cons b p =>
      have hab : a < b := (List.pairwise_cons.1 hr).1 b (by simp)
      have h1 := h.2 b (by simp)
      simp only [List.headD_cons] at h1
      refine Classical.byContradiction fun hno => ?_
      have hd : ¬ 0 < degN n E a := fun hd => hno ⟨a, by simp, hd⟩
      have : b = a := rch_closed (T := fun x => x = a) rfl (fun x y hx hE hy => by
        subst hx
        exact absurd (degN_pos.2 ⟨y, hn y hy, hE⟩) hd) b h1
      omega
theorem deg_part {n : Nat} {E : Nat → Nat → Bool} (hs : ∀ r j, E r j = true → E j r = true) (hi : ∀ r, E r r = false) {ps : List (List Nat)} (h : Parts E (List.range n) ps) {x : Nat} (hx : x < n) (hd : 0 < degN n E x) : ∃ p ∈ ps, x ∈ p ∧ 1 < p.length := by
  obtain ⟨p, hp, hxp⟩ := parts_cover h x (List.mem_range.2 hx)
  obtain ⟨y, hy, hE⟩ := degN_pos.1 hd
  have hyp := parts_closed hs h p hp x hxp y (List.mem_range.2 hy) hE
  refine ⟨p, hp, hxp, ?_⟩
  match p, hxp, hyp with
  | [a], hxp, hyp =>
    exfalso
    have e1 : x = a := by simpa using hxp
    have e2 : y = a := by simpa using hyp
    rw [e1, e2, hi] at hE
    exact absurd hE (by decide)
  | a :: b :: p, _, _ => simp
theorem conn_two {n : Nat} {E : Nat → Nat → Bool} (hs : ∀ r j, E r j = true → E j r = true) {p : List Nat} (h : ConnL E p) (hn : ∀ x ∈ p, x < n) {x y : Nat} (hx : x ∈ p) (hy : y ∈ p) : Rch E (· ∈ List.range n) x y := by
  have hh : p.headD 0 ∈ p := by
    cases p with
    | nil => simp at hx
    | cons a p => simp
  exact rch_mono (fun z hz => List.mem_range.2 (hn z hz)) y (rch_trans (rch_sym hs hh (h.2 x hx)) (h.2 y hy))

theorem tr_iff {n : Nat} {E : Nat → Nat → Bool} (hs : ∀ r j, E r j = true → E j r = true) (hi : ∀ r, E r r = false) (hn : 0 < n) {ps : List (List Nat)} (h : Parts E (List.range n) ps) :
    (∃ v, v < n ∧ Tr n E v) ↔ (List.range n).countP (fun v => degN n E v % 2 == 1) ≤ 2 ∧ ps.countP (fun p => decide (1 < p.length)) ≤ 1 := by
  have hin : ∀ p ∈ ps, ∀ x ∈ p, x < n := fun p hp x hx => List.mem_range.1 (parts_in h p hp x hx)
  constructor
  · rintro ⟨v, hv, h1, h2⟩
    constructor
    · have e1 := countP_but (p := fun v => degN n E v % 2 == 1) (v := v) (l := List.range n) List.nodup_range
      have e2 : (List.range n).countP (fun j => degN n E j % 2 == 1 && !(j == v)) ≤ 1 := by
        refine countP_le_one (List.Pairwise.imp_of_mem (R := (· ≠ ·)) (fun {a b} ha hb hab => ?_) List.nodup_range)
        rintro ⟨k1, k2⟩
        simp only [Bool.and_eq_true, beq_iff_eq, Bool.not_eq_true', beq_eq_false_iff_ne] at k1 k2
        exact hab (h2 a b (List.mem_range.1 ha) (List.mem_range.1 hb) k1.1 k2.1 k1.2 k2.2)
      omega
    · refine countP_le_one (List.Pairwise.imp_of_mem (fun {p q} hp hq hpq => ?_) (parts_apart h))
      rintro ⟨k1, k2⟩
      simp only [decide_eq_true_eq] at k1 k2
      have hri := parts_ris h List.pairwise_lt_range
      obtain ⟨x, hx, hdx⟩ := conn_deg (parts_conn h p hp) (hri p hp) k1 (hin p hp)
      obtain ⟨y, hy, hdy⟩ := conn_deg (parts_conn h q hq) (hri q hq) k2 (hin q hq)
      have r1 := h1 x (hin p hp x hx) hdx
      have r2 := h1 y (hin q hq y hy) hdy
      have r3 : Rch E (· ∈ List.range n) x y := rch_trans (rch_sym hs (List.mem_range.2 hv) r1) r2
      have : y ∈ p := rch_closed (T := (· ∈ p)) hx (fun a b ha hE hb => parts_closed hs h p hp a ha b hb hE) y r3
      exact (hpq y this y hy).1 rfl
  · rintro ⟨h1, h2⟩
    have he := odd_even hs hi (fun _ => true) (n := n) (fun _ _ _ _ _ => rfl)
    have ef : (List.range n).filter (fun _ => true) = List.range n := List.filter_eq_self.2 fun _ _ => rfl
    rw [ef] at he
    have reach : ∀ v, v < n → 0 < degN n E v → ∀ x, x < n → 0 < degN n E x → Rch E (· ∈ List.range n) v x := by
      intro v hv hdv x hx hdx
      obtain ⟨p, hp, hvp, hlp⟩ := deg_part hs hi h hv hdv
      obtain ⟨q, hq, hxq, hlq⟩ := deg_part hs hi h hx hdx
      obtain rfl := countP_same h2 hp hq (by simpa using hlp) (by simpa using hlq)
      exact conn_two hs (parts_conn h p hp) (hin p hp) hvp hxq
    by_cases h0 : ∃ v, v < n ∧ oddV n E v
    · obtain ⟨v, hv, hov⟩ := h0
      have hdv : 0 < degN n E v := by unfold oddV at hov; omega
      refine ⟨v, hv, reach v hv hdv, fun x y hx hy hox hoy hxv hyv => ?_⟩
      refine Classical.byContradiction fun hxy => ?_
      have c1 := countP_cut (f := fun v => degN n E v % 2 == 1) List.nodup_range (List.mem_range.2 hv) (by unfold oddV at hov; simpa using hov)
      have c2 := countP_cut (f := fun j => (degN n E j % 2 == 1) && !(j == v)) List.nodup_range (List.mem_range.2 hx) (by unfold oddV at hox; simp [hox, hxv])
      have c3 := countP_cut (f := fun j => ((degN n E j % 2 == 1) && !(j == v)) && !(j == x)) List.nodup_range (List.mem_range.2 hy) (by unfold oddV at hoy; simp [hoy, hyv, Ne.symm hxy])
      omega
    · have hno : ∀ x, x < n → ¬ oddV n E x := fun x hx ho => h0 ⟨x, hx, ho⟩
      by_cases hd : ∃ v, v < n ∧ 0 < degN n E v
      · obtain ⟨v, hv, hdv⟩ := hd
        exact ⟨v, hv, reach v hv hdv, fun x y hx _ hox => absurd hox (hno x hx)⟩
      · exact ⟨0, hn, fun x hx hdx => absurd ⟨x, hx, hdx⟩ hd, fun x y hx _ hox => absurd hox (hno x hx)⟩

end Go.Proofs.YtiooindlpinjhaaDoor
