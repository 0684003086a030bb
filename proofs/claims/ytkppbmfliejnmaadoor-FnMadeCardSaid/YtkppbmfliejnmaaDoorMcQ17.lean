/- Walks: l1Less, l12Bit, l12Set. -/
import Derived.Test.YtkppbmfliejnmaaDoorMcQ15
import Derived.Test.YtkppbmfliejnmaaDoorMcQ3
import Derived.Deep.RegionHeld3
import Derived.Deep.DeepCutAuto
import Derived.Test.YtkppbmfliejnmaaDoorMcQ4
import Derived.Deep.RegionWith
namespace Go.Proofs.YtkppbmfliejnmaaDoor
open Go.RowKit

theorem natInts_atL {l : List Nat} {k : Nat} (h : k < l.length) {h' : k < (natInts l).length} : (natInts l)[k] = ((l[k] : Nat) : Int) := by simp [natInts]
theorem lexL_at : ∀ (i : Nat) (a b : List Nat) (ha : i < a.length) (hb : i < b.length), a.take i = b.take i → a[i] ≠ b[i] → (lexL a b ↔ a[i] < b[i])
  | _, [], _, ha, _, _, _ => by simp at ha
  | _, _ :: _, [], _, hb, _, _ => by simp at hb
  | 0, x :: a, y :: b, _, _, _, hne => by
    simp only [List.getElem_cons_zero] at hne ⊢
    simp only [lexL]
    exact ⟨fun h => h.elim id fun h => absurd h.1 hne, .inl⟩
  | i + 1, x :: a, y :: b, ha, hb, ht, hne => by
    simp only [List.take_succ_cons, List.cons.injEq] at ht
    obtain ⟨rfl, ht⟩ := ht
    simp only [List.getElem_cons_succ] at hne ⊢
    simp only [lexL]
    rw [← lexL_at i a b (by simpa using ha) (by simpa using hb) ht hne]
    exact ⟨fun h => h.elim (fun h => absurd h (Nat.lt_irrefl _)) fun h => h.2, fun h => .inr ⟨trivial, h⟩⟩

set_option maxRecDepth 100000 in
set_option maxHeartbeats 1000000 in
theorem l1Less_any (u v : Value) (xs ys : List Nat) (w : World) (hx : Nums w 2 .i64 u (natInts xs)) (hy : Nums w 2 .i64 v (natInts ys)) :
    Calls Tryd.prog 168 #[u, v] w fun e w' => e = .returned (.bool (dec (lessP xs ys))) ∧ ∃ q, w' = w.drewN q := by
  obtain ⟨p, c, rfl, hp, _, hn, hat⟩ := hx
  obtain ⟨p', c', rfl, hp', _, hn', hat'⟩ := hy
  rw [natInts_length] at hn hn'
  by_cases hl : xs.length = ys.length
  case neg =>
    have hl' : ((xs.length : Int) != (ys.length : Int)) = true := by simp; omega
    have H : dec (lessP xs ys) = decide (xs.length < ys.length) := by
      by_cases h : xs.length < ys.length
      · rw [dec_true (show lessP xs ys from .inl h)]; simpa using h
      · rw [dec_false (show ¬ lessP xs ys from fun k => k.elim h fun k => hl k.1)]; simpa using h
    have HH := Lib.hid H
    clear H
    simp only [natInts_length] at *
    go_enter Tryd.func168, Tryd.ntmps168
    go_wp2
    go_ret
    exact ⟨by rw [HH.out]; rfl, 0, rfl⟩
  have Hl := Lib.hid hl
  have hl' : ((xs.length : Int) != (ys.length : Int)) = false := by simp; omega
  clear hl
  have Hat := Lib.hid hat
  have Hat' := Lib.hid hat'
  clear hat hat'
  simp only [natInts_length] at *
  go_enter Tryd.func168, Tryd.ntmps168
  go_wp2
  go_loopw [5] (fun i wr => ∃ k : Nat, k ≤ xs.length ∧ i = .int .i64 k ∧ xs.take k = ys.take k ∧ ∃ q, wr = w.drewN q) (fun i _ => xs.length - (intOf i).toNat)
  case atStart => exact ⟨0, Nat.zero_le _, rfl, by simp, 0, rfl⟩
  case round =>
    obtain ⟨k, hk, rfl, heq, q, rfl⟩ := hrel
    have Heq := Lib.hid heq
    clear heq
    by_cases hlt : k < xs.length
    · have hlt' : k < ys.length := by have := Hl.out; omega
      obtain ⟨b, o, rfl, hcell⟩ := Hat.out.num (k := k) (by rw [natInts_length]; exact hlt)
      obtain ⟨b', o', rfl, hcell'⟩ := Hat'.out.num (k := k) (by rw [natInts_length]; exact hlt')
      rw [natInts_atL hlt] at hcell
      rw [natInts_atL hlt'] at hcell'
      have e0 : (0 : Int) ≤ (k : Int) := by omega
      have e1 : (k : Int) < (xs.length : Int) := by omega
      have e2 : (k : Int) < (ys.length : Int) := by omega
      have HLT := Lib.hid hlt
      have HLT' := Lib.hid hlt'
      by_cases he : xs[k] = ys[k]
      · have he' : (((xs[k] : Nat) : Int) != ((ys[k] : Nat) : Int)) = false := by simp; omega
        have He := Lib.hid he
        clear he
        go_wp2
        go_quiet (fail)
        go_wp2
        go_roundw
        case rel => exact ⟨k + 1, by omega, by go_num, by rw [take_snoc xs k HLT.out, take_snoc ys k HLT'.out, Heq.out]; exact congrArg (fun z => _ ++ [z]) He.out, _, rfl⟩
        case measure => simp [intOf]; omega
      · have he' : (((xs[k] : Nat) : Int) != ((ys[k] : Nat) : Int)) = true := by simp; omega
        have He := Lib.hid he
        have H : dec (lessP xs ys) = decide (xs[k] < ys[k]) := by
          have h1 := lexL_at k xs ys hlt hlt' Heq.out he
          by_cases h : xs[k] < ys[k]
          · rw [dec_true (show lessP xs ys from .inr ⟨Hl.out, h1.2 h⟩)]; simpa using h
          · rw [dec_false (show ¬ lessP xs ys from fun h2 => h2.elim (fun h3 => by have := Hl.out; omega) fun h3 => h (h1.1 h3.2))]; simpa using h
        have HH := Lib.hid H
        clear he H
        go_wp2
        go_quiet (fail)
        go_wp2
        go_quiet (fail)
        go_wp2
        go_ret
        exact ⟨by rw [HH.out]; rfl, _, by rw [World.drewN_drewN, World.drewN_drewN]⟩
    · obtain rfl : k = xs.length := by omega
      go_wp2
      go_ret
      refine ⟨ret_bool (false_dec ?_), q, rfl⟩
      have h := Heq.out
      rw [List.take_length, Hl.out, List.take_length] at h
      rw [h]
      exact lessP_irrefl _

theorem i64_and_nat (a b : Nat) (ha : a < 4294967296) (hb : b < 4294967296) : bits BinOp.and IntKind.i64 (a : Int) (b : Int) = ((a &&& b : Nat) : Int) :=
  (bits_nat .i64 32 (by decide) (fun n h1 h2 => by rw [IntKind.wrap_i64]; omega) a b (by omega) (by omega)).1

theorem wrap_pow (v : Nat) (hv : v < 32) : wrap64 (2 ^ v) = ((2 ^ v : Nat) : Int) := by
  have h1 := pow_lt32 v hv
  have e : (2 ^ v : Int) = ((2 ^ v : Nat) : Int) := by simp
  rw [e]
  generalize (2 ^ v : Nat) = t at *
  unfold wrap64
  omega

theorem bit_ne (s k : Nat) (hs : s < 65536) (hk : k < 17) : (bits BinOp.and IntKind.i64 (s : Int) ((2 ^ k : Nat) : Int) != 0) = s.testBit k := by
  have h1 := pow_lt32 k (by omega)
  rw [i64_and_nat _ _ (by omega) h1, Bool.eq_iff_iff]
  constructor
  · intro h
    refine Decidable.byContradiction fun hn => ?_
    have h0 : s &&& 2 ^ k = 0 := Nat.eq_of_testBit_eq fun j => by
      rw [Nat.testBit_and, Nat.testBit_two_pow, Nat.zero_testBit]
      by_cases hj : k = j
      · subst hj
        simpa using hn
      · simp [hj]
    rw [h0] at h
    simp at h
  · intro h
    have h0 : s &&& 2 ^ k ≠ 0 := fun h0 => by
      have := congrArg (fun z => z.testBit k) h0
      simp [h] at this
    simp only [bne_iff_ne, ne_eq]
    omega



def lowB (s k : Nat) : List Nat := (List.range k).filter fun i => s.testBit i
theorem lowB_len (s k : Nat) : (lowB s k).length ≤ k := Nat.le_trans (List.length_filter_le _ _) (by simp)
theorem lowB_yes {s k : Nat} (h : s.testBit k = true) : lowB s (k + 1) = lowB s k ++ [k] := by simp [lowB, List.range_succ, h]
theorem lowB_no {s k : Nat} (h : s.testBit k = false) : lowB s (k + 1) = lowB s k := by simp [lowB, List.range_succ, h]
theorem lowB_end {s k : Nat} (hs : s < 2 ^ k) (hk : k ≤ 32) : lowB s k = bitsOf s :=
  rising_ext _ _ (List.Pairwise.filter _ List.pairwise_lt_range) (bitsOf_rising s) fun x => by
    rw [mem_bitsOf, lowB, List.mem_filter, List.mem_range]
    constructor
    · rintro ⟨a, b⟩
      exact ⟨by omega, b⟩
    · rintro ⟨a, b⟩
      refine ⟨Nat.lt_of_not_le fun hge => ?_, b⟩
      have := Nat.testBit_lt_two_pow (Nat.lt_of_lt_of_le hs (Nat.pow_le_pow_right (by decide) hge) : s < 2 ^ x)
      rw [this] at b
      exact nomatch b


end Go.Proofs.YtkppbmfliejnmaaDoor

/- Walks: what the exact laws do with their arguments and results: size, copy, compare, mark, hold. -/
namespace Go.Proofs.YtkppbmfliejnmaaDoor
open Go.RowKit

/-- From p on lie the cells vals, whatever the block says of its elements: what an argument reads as. -/
def Cl (w : World) (p : Option Addr) (vals : List Value) : Prop :=
  vals = [] ∨ ∃ b o, p = some ⟨b, o, none⟩ ∧ ∀ j u, vals[j]? = some u → w.cell? ⟨b, o + j, none⟩ = some u
def ArgN (w : World) (v : Value) (xs : List Int) : Prop := ∃ p c, v = .slice p xs.length c ∧ xs.length ≤ 9223372036854775807 ∧ Cl w p (xs.map (Value.int .i64))
def ArgR (w : World) (v : Value) (g : List (List Int)) : Prop :=
  ∃ p c vals, v = .slice p g.length c ∧ g.length ≤ 9223372036854775807 ∧ vals.length = g.length ∧ Cl w p vals ∧ ∀ j, j < g.length → ArgN w (vals.getD j undef) (g.getD j [])
/-- A law's graph. -/
def ArgG (w : World) (v : Value) (g : List (List Int)) : Prop := ∃ u, v = .agg #[u] ∧ ArgR w u g

theorem Cl.below {w w' : World} {p : Option Addr} {vals : List Value} (h : Cl w p vals) (hb : Below w.heap.size w w') : Cl w' p vals := by
  rcases h with h | ⟨b, o, h1, h2⟩
  · exact .inl h
  · exact .inr ⟨b, o, h1, fun j u hu => hb.at' (h2 j u hu)⟩
theorem ArgN.below {w w' : World} {v : Value} {xs : List Int} (h : ArgN w v xs) (hb : Below w.heap.size w w') : ArgN w' v xs := by
  obtain ⟨p, c, h1, h2, h3⟩ := h
  exact ⟨p, c, h1, h2, h3.below hb⟩
theorem ArgR.below {w w' : World} {v : Value} {g : List (List Int)} (h : ArgR w v g) (hb : Below w.heap.size w w') : ArgR w' v g := by
  obtain ⟨p, c, vals, h1, h2, h3, h4, h5⟩ := h
  exact ⟨p, c, vals, h1, h2, h3, h4.below hb, fun j hj => (h5 j hj).below hb⟩
theorem ArgG.below {w w' : World} {v : Value} {g : List (List Int)} (h : ArgG w v g) (hb : Below w.heap.size w w') : ArgG w' v g := by
  obtain ⟨u, h1, h2⟩ := h
  exact ⟨u, h1, h2.below hb⟩
theorem Cl.get {w : World} {p : Option Addr} {vals : List Value} (h : Cl w p vals) {k : Nat} (hk : k < vals.length) : ∃ b o, p = some ⟨b, o, none⟩ ∧ w.cell? ⟨b, o + k, none⟩ = some vals[k] := by
  rcases h with h | ⟨b, o, h1, h2⟩
  · subst h; simp at hk
  · exact ⟨b, o, h1, h2 k _ (by simp [hk])⟩
theorem Cl.num {w : World} {p : Option Addr} {xs : List Int} (h : Cl w p (xs.map (Value.int .i64))) {k : Nat} (hk : k < xs.length) : ∃ b o, p = some ⟨b, o, none⟩ ∧ w.cell? ⟨b, o + k, none⟩ = some (.int .i64 xs[k]) := by
  obtain ⟨b, o, h1, h2⟩ := h.get (k := k) (by simpa using hk)
  exact ⟨b, o, h1, by rw [h2]; simp⟩
theorem ArgR.get {w : World} {p : Option Addr} {n c : Nat} {g : List (List Int)} (h : ArgR w (.slice p n c) g) {k : Nat} (hk : k < g.length) :
    ∃ b o rp rc, p = some ⟨b, o, none⟩ ∧ w.cell? ⟨b, o + k, none⟩ = some (.slice rp (row g k).length rc) ∧ ArgN w (.slice rp (row g k).length rc) (row g k) := by
  obtain ⟨p', c', vals, he, _, hl, hcl, hr⟩ := h
  simp only [Value.slice.injEq] at he
  obtain ⟨rfl, rfl, rfl⟩ := he
  obtain ⟨b, o, hp, hc⟩ := hcl.get (k := k) (by omega)
  have hrow := hr k hk
  have e : vals.getD k undef = vals[k] := by simp [hl, hk]
  rw [e] at hrow
  obtain ⟨rp, rc, hv, _⟩ := id hrow
  rw [hv] at hc hrow
  exact ⟨b, o, rp, rc, hp, hc, hrow⟩

theorem take_replicate_set {α : Type} (xs ys : List α) (k : Nat) (z : α) (hy : ys = xs.take k ++ List.replicate (xs.length - k) z) (hk : k < xs.length) :
    ys.set k xs[k] = xs.take (k + 1) ++ List.replicate (xs.length - (k + 1)) z := by
  subst hy
  have hl : (xs.take k).length = k := by rw [List.length_take]; omega
  have e : xs.length - k = (xs.length - (k + 1)) + 1 := by omega
  rw [List.set_append, if_neg (by omega), hl, Nat.sub_self, e, List.replicate_succ, List.set_cons_zero, take_snoc xs k hk, List.append_assoc]
  rfl

end Go.Proofs.YtkppbmfliejnmaaDoor

/- Walks: what the exact laws do with their arguments and results, second part. -/
namespace Go.Proofs.YtkppbmfliejnmaaDoor
open Go.RowKit

/-- A slice of rows, each of its own, all in blocks from base on. -/
def OwnRws (w : World) (base : Nat) (v : Value) (g : List (List Int)) : Prop :=
  ∃ vals, vals.length = g.length ∧ w.ownsRow base 33 1 v g.length vals ∧ ∀ j, j < g.length → w.ownsRow base 2 1 (vals.getD j undef) (row g j).length ((row g j).map (Value.int .i64))
def OwnG (w : World) (base : Nat) (v : Value) (g : List (List Int)) : Prop := ∃ u, v = .agg #[u] ∧ OwnRws w base u g

theorem OwnRws.below {w w' : World} {base : Nat} {v : Value} {g : List (List Int)} (h : OwnRws w base v g) (hb : Below w.heap.size w w') : OwnRws w' base v g := by
  obtain ⟨vals, h1, h2, h3⟩ := h
  exact ⟨vals, h1, ownsRow_below h2 hb, fun j hj => ownsRow_below (h3 j hj) hb⟩
theorem OwnG.below {w w' : World} {base : Nat} {v : Value} {g : List (List Int)} (h : OwnG w base v g) (hb : Below w.heap.size w w') : OwnG w' base v g := by
  obtain ⟨u, h1, h2⟩ := h
  exact ⟨u, h1, h2.below hb⟩
theorem OwnRws.rws {w : World} {base : Nat} {v : Value} {g : List (List Int)} (h : OwnRws w base v g) (h1 : g.length ≤ 1000000000) (h2 : ∀ j, j < g.length → (row g j).length ≤ 1000000000) : Rws w 33 2 v g := by
  obtain ⟨vals, e1, e2, e3⟩ := h
  exact ⟨vals, e1, Sl.of_owns e2 h1, fun j hj => Nums.of_owns (e3 j hj) rfl (h2 j hj)⟩
theorem OwnG.gr {w : World} {base : Nat} {v : Value} {g : List (List Int)} (h : OwnG w base v g) (h1 : g.length ≤ 1000000000) (h2 : ∀ j, j < g.length → (row g j).length ≤ 1000000000) : Gr w v g := by
  obtain ⟨u, e1, e2⟩ := h
  exact ⟨u, e1, e2.rws h1 h2⟩

theorem OwnRws.set {w : World} {base : Nat} {v : Value} {g : List (List Int)} (h : OwnRws w base v g) {a : Addr} (ha : a.block < base) (u : Value) : OwnRws (w.setCell a u) base v g := by
  obtain ⟨vals, h1, h2, h3⟩ := h
  exact ⟨vals, h1, ownsRow_setCell_below h2 ha u, fun j hj => ownsRow_setCell_below (h3 j hj) ha u⟩
theorem OwnRws.lower {w : World} {base base' : Nat} {v : Value} {g : List (List Int)} (h : OwnRws w base v g) (hb : base' ≤ base) : OwnRws w base' v g := by
  obtain ⟨vals, h1, h2, h3⟩ := h
  exact ⟨vals, h1, ownsRow_base h2 hb, fun j hj => ownsRow_base (h3 j hj) hb⟩
theorem OwnG.lower {w : World} {base base' : Nat} {v : Value} {g : List (List Int)} (h : OwnG w base v g) (hb : base' ≤ base) : OwnG w base' v g := by
  obtain ⟨u, h1, h2⟩ := h
  exact ⟨u, h1, h2.lower hb⟩

theorem getD_set_self {α : Type} (l : List α) (k : Nat) (x d : α) (h : k < l.length) : (l.set k x).getD k d = x := by simp [h]
theorem getD_set_other {α : Type} (l : List α) (k j : Nat) (x d : α) (h : k ≠ j) : (l.set k x).getD j d = l.getD j d := by simp [h]

end Go.Proofs.YtkppbmfliejnmaaDoor

/- Walks: what the exact laws do with their arguments and results, third part. -/
namespace Go.Proofs.YtkppbmfliejnmaaDoor
open Go.RowKit

/-- The marks k, k + 1, .. -/
def marks (k : Int) (n : Nat) : List Int := (List.range n).map fun (i : Nat) => k + (i : Int)
theorem marks_length (k : Int) (n : Nat) : (marks k n).length = n := by simp [marks]
theorem marks_succ (k : Int) (n : Nat) : marks k (n + 1) = marks k n ++ [k + n] := by simp [marks, List.range_succ]

theorem set_marks (ys : List Value) (n k : Nat) (m : Int) (hy : ys.length = n) (hk : k < n) :
    (((marks m k).map (Value.int .i64)) ++ ys.drop k).set k (.int .i64 (m + k)) = ((marks m (k + 1)).map (Value.int .i64)) ++ ys.drop (k + 1) := by
  have hl : ((marks m k).map (Value.int .i64)).length = k := by simp [marks_length]
  rw [List.set_append, if_neg (by omega), hl, Nat.sub_self, marks_succ, List.map_append, List.append_assoc]
  congr 1
  rw [List.drop_eq_getElem_cons (by omega)]
  rfl

end Go.Proofs.YtkppbmfliejnmaaDoor

/- Walks: SameGraph, of both. -/
namespace Go.Proofs.YtkppbmfliejnmaaDoor
open Go.RowKit

set_option maxRecDepth 100000 in
set_option maxHeartbeats 1000000 in
theorem l1Same_any (u v : Value) (xs ys : List Int) (w : World) (hx : Nums w 2 .i64 u xs) (hy : Nums w 2 .i64 v ys) :
    Calls Tryd.prog 206 #[u, v] w fun e w' => e = .returned (.bool (dec (xs = ys))) ∧ ∃ q, w' = w.drewN q := by
  obtain ⟨p, c, rfl, hp, _, hn, hat⟩ := hx
  obtain ⟨p', c', rfl, hp', _, hn', hat'⟩ := hy
  by_cases hl : xs.length = ys.length
  case neg =>
    have hl' : ((xs.length : Int) != (ys.length : Int)) = true := by simp; omega
    go_enter Tryd.func206, Tryd.ntmps206
    go_wp2
    go_ret
    exact ⟨ret_bool (false_dec fun h => hl (by rw [h])), 0, rfl⟩
  have Hl := Lib.hid hl
  have hl' : ((xs.length : Int) != (ys.length : Int)) = false := by simp; omega
  clear hl
  go_enter Tryd.func206, Tryd.ntmps206
  go_wp2
  go_loopw [5] (fun i wr => ∃ k : Nat, k ≤ xs.length ∧ i = .int .i64 k ∧ xs.take k = ys.take k ∧ ∃ q, wr = w.drewN q) (fun i _ => xs.length - (intOf i).toNat)
  case atStart => exact ⟨0, Nat.zero_le _, rfl, by simp, 0, rfl⟩
  case round =>
    obtain ⟨k, hk, rfl, heq, q, rfl⟩ := hrel
    have Heq := Lib.hid heq
    clear heq
    by_cases hlt : k < xs.length
    · have hlt' : k < ys.length := by have := Hl.out; omega
      obtain ⟨b, o, rfl, hcell⟩ := hat.num hlt
      obtain ⟨b', o', rfl, hcell'⟩ := hat'.num hlt'
      clear hat hat'
      have e0 : (0 : Int) ≤ (k : Int) := by omega
      have e1 : (k : Int) < (xs.length : Int) := by omega
      have e2 : (k : Int) < (ys.length : Int) := by omega
      by_cases he : xs[k] = ys[k]
      · have he' : (xs[k] != ys[k]) = false := by simpa using he
        have He := Lib.hid he
        clear he
        go_wp2
        go_quiet (fail)
        go_wp2
        go_roundw
        case rel => exact ⟨k + 1, by omega, by go_num, by rw [take_snoc xs k hlt, take_snoc ys k hlt', Heq.out, He.out], _, rfl⟩
        case measure => simp [intOf]; omega
      · have he' : (xs[k] != ys[k]) = true := by simpa using he
        have He := Lib.hid he
        clear he
        go_wp2
        go_quiet (fail)
        go_wp2
        go_ret
        exact ⟨ret_bool (false_dec fun h => He.out (by subst h; rfl)), _, World.drewN_drewN _ _ _⟩
    · obtain rfl : k = xs.length := by omega
      go_wp2
      go_ret
      refine ⟨ret_bool (true_dec ?_), q, rfl⟩
      have h := Heq.out
      rwa [List.take_length, Hl.out, List.take_length] at h

set_option maxRecDepth 100000 in
set_option maxHeartbeats 1000000 in
theorem l1SameGraph_any (u v : Value) (g h : List (List Int)) (w : World) (hx : Gr w u g) (hy : Gr w v h) :
    Calls Tryd.prog 146 #[u, v] w fun e w' => e = .returned (.bool (dec (g = h))) ∧ Below w.heap.size w w' := by
  obtain ⟨u, rfl, hx0⟩ := hx
  obtain ⟨v, rfl, hy0⟩ := hy
  obtain ⟨p, c, rfl, hp, _, hn⟩ := hx0.shape
  obtain ⟨p', c', rfl, hp', _, hn'⟩ := hy0.shape
  obtain ⟨W, hW⟩ : ∃ W, W = (w.alloc (.cells #[.slice p g.length c] 29)).alloc (.cells #[.slice p' h.length c'] 29) := ⟨_, rfl⟩
  have hb0 : Below w.heap.size w W := by rw [hW]; exact below_alloc2 _ _ _
  have BA : Box W w.heap.size 29 (.slice p g.length c) := by rw [hW]; exact (Box.new _ _ _).alloc _
  have BB : Box W (w.heap.size + 1) 29 (.slice p' h.length c') := by
    have := Box.new (w.alloc (.cells #[.slice p g.length c] 29)) (.slice p' h.length c') 29
    rw [size_alloc] at this
    rw [hW]; exact this
  have hx := hx0.below hb0
  have hy := hy0.below hb0
  have HB0 := Lib.hid hb0
  have HBA := Lib.hid BA
  have HBB := Lib.hid BB
  have HW := Lib.hid hW
  clear hx0 hy0 hb0 BA BB hW
  obtain ⟨qa, _⟩ := id HBA.out
  obtain ⟨qb, _⟩ := id HBB.out
  by_cases hl : g.length = h.length
  case neg =>
    have hl' : ((g.length : Int) != (h.length : Int)) = true := by simp; omega
    go_enter Tryd.func146, Tryd.ntmps146
    go_upto_region 1 with fail
    rw [← HW.out]
    go_wp2
    go_ret
    exact ⟨ret_bool (false_dec fun e => hl (by rw [e])), HB0.out⟩
  have Hl := Lib.hid hl
  have hl' : ((g.length : Int) != (h.length : Int)) = false := by simp; omega
  clear hl
  go_enter Tryd.func146, Tryd.ntmps146
  go_upto_region 1 with fail
  rw [← HW.out]
  go_wp2
  go_loopw [5] (fun i wr => ∃ k : Nat, k ≤ g.length ∧ i = .int .i64 k ∧ g.take k = h.take k ∧ Below W.heap.size W wr) (fun i _ => g.length - (intOf i).toNat)
  case atStart => exact ⟨0, Nat.zero_le _, rfl, by simp, Below.refl _ _⟩
  case round =>
    clear qa qb
    obtain ⟨k, hk, rfl, heq, hbel⟩ := hrel
    have Heq := Lib.hid heq
    clear heq
    have qa := (HBA.out.keep hbel).cell
    have qb := (HBB.out.keep hbel).cell
    by_cases hlt : k < g.length
    · have hlt' : k < h.length := by have := Hl.out; omega
      obtain ⟨b, o, rp, rc, rfl, hcell, hnums⟩ := (hx.below hbel).get hlt
      obtain ⟨b', o', rp', rc', rfl, hcell', hnums'⟩ := (hy.below hbel).get hlt'
      clear hx hy
      have e0 : (0 : Int) ≤ (k : Int) := by omega
      have e1 : (k : Int) < (g.length : Int) := by omega
      have e2 : (k : Int) < (h.length : Int) := by omega
      have g1 : g.getD k [] = g[k] := by simp [hlt]
      have g2 : h.getD k [] = h[k] := by simp [hlt']
      rw [g1] at hcell hnums
      rw [g2] at hcell' hnums'
      clear g1 g2
      by_cases he : g[k] = h[k]
      · have he' := dec_true he
        have He := Lib.hid he
        clear he
        go_wp2
        go_quiet ((go_at_call 206; exact Calls.quiet_of (l1Same_any _ _ _ _ _ (hnums.below (below_dN (Below.refl _ _) _)) (hnums'.below (below_dN (Below.refl _ _) _)))))
        go_wp2
        go_roundw
        case rel => exact ⟨k + 1, by omega, by go_num, by rw [take_snoc g k hlt, take_snoc h k hlt', Heq.out, He.out], below_dN hbel _⟩
        case measure => simp [intOf]; omega
      · have he' := dec_false he
        have He := Lib.hid he
        clear he
        go_wp2
        go_quiet ((go_at_call 206; exact Calls.quiet_of (l1Same_any _ _ _ _ _ (hnums.below (below_dN (Below.refl _ _) _)) (hnums'.below (below_dN (Below.refl _ _) _)))))
        go_wp2
        go_ret
        exact ⟨ret_bool (false_dec fun e => He.out (by subst e; rfl)), below_dN (HB0.out.trans (hbel.mono HB0.out.size)) _⟩
    · obtain rfl : k = g.length := by omega
      go_wp2
      go_ret
      refine ⟨ret_bool (true_dec ?_), HB0.out.trans (hbel.mono HB0.out.size)⟩
      have e := Heq.out
      rwa [List.take_length, Hl.out, List.take_length] at e

set_option maxRecDepth 100000 in
set_option maxHeartbeats 1000000 in
theorem specSameGraph_any (u v : Value) (g h : List (List Int)) (w : World) (hx : Gr w u g) (hy : Gr w v h) :
    Calls Tryd.prog 60 #[u, v] w fun e w' => e = .returned (.bool (dec (GOk g ∧ GOk h ∧ g = h))) ∧ Below w.heap.size w w' := by
  obtain ⟨u, rfl, hx0⟩ := id hx
  obtain ⟨v, rfl, hy0⟩ := id hy
  obtain ⟨p, c, rfl, hp, _, hn⟩ := hx0.shape
  obtain ⟨p', c', rfl, hp', _, hn'⟩ := hy0.shape
  have hb0 := Lib.hid (below_alloc2 w (.cells #[.slice p g.length c] 29) (.cells #[.slice p' h.length c'] 29))
  have BA := Lib.hid ((Box.new w (.slice p g.length c) 29).alloc (.cells #[.slice p' h.length c'] 29))
  have BB : Hid (Box ((w.alloc (.cells #[.slice p g.length c] 29)).alloc (.cells #[.slice p' h.length c'] 29)) (w.heap.size + 1) 29 (.slice p' h.length c')) := by
    have := Box.new (w.alloc (.cells #[.slice p g.length c] 29)) (.slice p' h.length c') 29
    rw [size_alloc] at this
    exact Lib.hid this
  have HX := Lib.hid (hx.below hb0.out)
  have HY := Lib.hid (hy.below hb0.out)
  have s0 := hb0.out.size
  clear hx hy hx0 hy0
  by_cases h1 : GOk g
  case neg =>
    have hd := dec_false h1
    have H1 := Lib.hid h1
    clear h1
    go_enter Tryd.func60, Tryd.ntmps60
    go_wp2_with (go_at_call 73; refine (specGraphOk_any _ g _ HX.out).mono ?_; rintro e w2 ⟨he, hb2⟩; rw [hd] at he; subst he)
    go_ret
    exact ⟨ret_bool (false_dec fun e => H1.out e.1), hb0.out.trans (hb2.mono s0)⟩
  have hd := dec_true h1
  have H1 := Lib.hid h1
  clear h1
  by_cases h2 : GOk h
  case neg =>
    have hd2 := dec_false h2
    have H2 := Lib.hid h2
    clear h2
    go_enter Tryd.func60, Tryd.ntmps60
    go_wp2_with (first
      | (go_at_call 73; refine (specGraphOk_any _ h _ (HY.out.below hb2)).mono ?_; rintro e w3 ⟨he, hb3⟩; rw [hd2] at he; subst he)
      | (go_at_call 73; refine (specGraphOk_any _ g _ HX.out).mono ?_; rintro e w2 ⟨he, hb2⟩; rw [hd] at he; subst he; have qb := (BB.out.keep hb2).cell))
    go_ret
    exact ⟨ret_bool (false_dec fun e => H2.out e.2.1), (hb0.out.trans (hb2.mono s0)).trans (hb3.mono (Nat.le_trans s0 hb2.size))⟩
  have hd2 := dec_true h2
  have H2 := Lib.hid h2
  clear h2
  go_enter Tryd.func60, Tryd.ntmps60
  go_wp2_with (first
    | (go_at_call 146; refine (l1SameGraph_any _ _ g h _ ((HX.out.below hb2).below hb3) ((HY.out.below hb2).below hb3)).mono ?_; rintro e w4 ⟨rfl, hb4⟩)
    | (go_at_call 73; refine (specGraphOk_any _ h _ (HY.out.below hb2)).mono ?_; rintro e w3 ⟨he, hb3⟩; rw [hd2] at he; subst he; have qa3 := ((BA.out.keep hb2).keep hb3).cell; have qb3 := ((BB.out.keep hb2).keep hb3).cell)
    | (go_at_call 73; refine (specGraphOk_any _ g _ HX.out).mono ?_; rintro e w2 ⟨he, hb2⟩; rw [hd] at he; subst he; have qb := (BB.out.keep hb2).cell))
  go_ret
  exact ⟨ret_bool (dec_congr ⟨fun e => ⟨H1.out, H2.out, e⟩, fun e => e.2.2⟩), ((hb0.out.trans (hb2.mono s0)).trans (hb3.mono (Nat.le_trans s0 hb2.size))).trans (hb4.mono (Nat.le_trans (Nat.le_trans s0 hb2.size) hb3.size))⟩

set_option maxRecDepth 100000 in
set_option maxHeartbeats 1000000 in
theorem slEqual_any (u v : Value) (xs ys : List Int) (w : World) (hx : Nums w 2 .i64 u xs) (hy : Nums w 2 .i64 v ys) :
    Calls Tryd.prog 120 #[u, v] w fun e w' => e = .returned (.bool (dec (xs = ys))) ∧ ∃ q, w' = w.drewN q := by
  obtain ⟨p, c, rfl, hp, _, hn, hat⟩ := hx
  obtain ⟨p', c', rfl, hp', _, hn', hat'⟩ := hy
  by_cases hl : xs.length = ys.length
  case neg =>
    have hl' : ((xs.length : Int) != (ys.length : Int)) = true := by simp; omega
    go_enter Tryd.func120, Tryd.ntmps120
    go_wp2
    go_ret
    exact ⟨ret_bool (false_dec fun h => hl (by rw [h])), 0, rfl⟩
  have Hl := Lib.hid hl
  have hl' : ((xs.length : Int) != (ys.length : Int)) = false := by simp; omega
  clear hl
  go_enter Tryd.func120, Tryd.ntmps120
  go_wp2
  go_loopw [13] (fun i wr => ∃ k : Nat, k ≤ xs.length ∧ i = .int .i64 k ∧ xs.take k = ys.take k ∧ ∃ q, wr = w.drewN q) (fun i _ => xs.length - (intOf i).toNat)
  case atStart => exact ⟨0, Nat.zero_le _, rfl, by simp, 0, rfl⟩
  case round =>
    obtain ⟨k, hk, rfl, heq, q, rfl⟩ := hrel
    have Heq := Lib.hid heq
    clear heq
    by_cases hlt : k < xs.length
    · have hlt' : k < ys.length := by have := Hl.out; omega
      obtain ⟨b, o, rfl, hcell⟩ := hat.num hlt
      obtain ⟨b', o', rfl, hcell'⟩ := hat'.num hlt'
      clear hat hat'
      have e0 : (0 : Int) ≤ (k : Int) := by omega
      have e1 : (k : Int) < (xs.length : Int) := by omega
      have e2 : (k : Int) < (ys.length : Int) := by omega
      by_cases he : xs[k] = ys[k]
      · have he' : (xs[k] != ys[k]) = false := by simpa using he
        have He := Lib.hid he
        clear he
        go_wp2
        go_quiet (fail)
        go_wp2
        go_roundw
        case rel => exact ⟨k + 1, by omega, by go_num, by rw [take_snoc xs k hlt, take_snoc ys k hlt', Heq.out, He.out], _, rfl⟩
        case measure => simp [intOf]; omega
      · have he' : (xs[k] != ys[k]) = true := by simpa using he
        have He := Lib.hid he
        clear he
        go_wp2
        go_quiet (fail)
        go_wp2
        go_ret
        exact ⟨ret_bool (false_dec fun h => He.out (by subst h; rfl)), _, World.drewN_drewN _ _ _⟩
    · obtain rfl : k = xs.length := by omega
      go_wp2
      go_ret
      refine ⟨ret_bool (true_dec ?_), q, rfl⟩
      have h := Heq.out
      rwa [List.take_length, Hl.out, List.take_length] at h

set_option maxRecDepth 100000 in
set_option maxHeartbeats 1000000 in
theorem equalFunc_any (u v : Value) (g h : List (List Int)) (w : World) (hx : Rws w 33 2 u g) (hy : Rws w 33 2 v h) :
    Calls Tryd.prog 119 #[u, v, .func (.func 120) #[] #[]] w fun e w' => e = .returned (.bool (dec (g = h))) ∧ Below w.heap.size w w' := by
  obtain ⟨p, c, rfl, hp, _, hn⟩ := hx.shape
  obtain ⟨p', c', rfl, hp', _, hn'⟩ := hy.shape
  by_cases hl : g.length = h.length
  case neg =>
    have hl' : ((g.length : Int) != (h.length : Int)) = true := by simp; omega
    go_enter Tryd.func119, Tryd.ntmps119
    go_wp2
    go_ret
    exact ⟨ret_bool (false_dec fun e => hl (by rw [e])), Below.refl _ _⟩
  have Hl := Lib.hid hl
  have hl' : ((g.length : Int) != (h.length : Int)) = false := by simp; omega
  clear hl
  go_enter Tryd.func119, Tryd.ntmps119
  go_wp2
  go_loopw [17] (fun i wr => ∃ k : Nat, k ≤ g.length ∧ i = .int .i64 k ∧ g.take k = h.take k ∧ Below w.heap.size w wr) (fun i _ => g.length - (intOf i).toNat)
  case atStart => exact ⟨0, Nat.zero_le _, rfl, by simp, Below.refl _ _⟩
  case round =>
    obtain ⟨k, hk, rfl, heq, hbel⟩ := hrel
    have Heq := Lib.hid heq
    clear heq
    by_cases hlt : k < g.length
    · have hlt' : k < h.length := by have := Hl.out; omega
      obtain ⟨b, o, rp, rc, rfl, hcell, hnums⟩ := (hx.below hbel).get hlt
      obtain ⟨b', o', rp', rc', rfl, hcell', hnums'⟩ := (hy.below hbel).get hlt'
      clear hx hy
      have e0 : (0 : Int) ≤ (k : Int) := by omega
      have e1 : (k : Int) < (g.length : Int) := by omega
      have e2 : (k : Int) < (h.length : Int) := by omega
      have g1 : g.getD k [] = g[k] := by simp [hlt]
      have g2 : h.getD k [] = h[k] := by simp [hlt']
      rw [g1] at hcell hnums
      rw [g2] at hcell' hnums'
      clear g1 g2
      by_cases he : g[k] = h[k]
      · have he' := dec_true he
        have He := Lib.hid he
        clear he
        go_wp2_with (go_at_call 120; refine (slEqual_any _ _ _ _ _ hnums hnums').mono ?_; rintro e w2 ⟨he2, q, rfl⟩; rw [he'] at he2; subst he2)
        go_roundw
        case rel => exact ⟨k + 1, by omega, by go_num, by rw [take_snoc g k hlt, take_snoc h k hlt', Heq.out, He.out], below_dN hbel _⟩
        case measure => simp [intOf]; omega
      · have he' := dec_false he
        have He := Lib.hid he
        clear he
        go_wp2_with (go_at_call 120; refine (slEqual_any _ _ _ _ _ hnums hnums').mono ?_; rintro e w2 ⟨he2, q, rfl⟩; rw [he'] at he2; subst he2)
        go_ret
        exact ⟨ret_bool (false_dec fun e => He.out (by subst e; rfl)), below_dN hbel _⟩
    · obtain rfl : k = g.length := by omega
      go_wp2
      go_ret
      refine ⟨ret_bool (true_dec ?_), hbel⟩
      have e := Heq.out
      rwa [List.take_length, Hl.out, List.take_length] at e

set_option maxRecDepth 100000 in
set_option maxHeartbeats 1000000 in
theorem implSameGraph_any (u v : Value) (g h : List (List Int)) (w : World) (hx : Gr w u g) (hy : Gr w v h) :
    Calls Tryd.prog 40 #[u, v] w fun e w' => e = .returned (.bool (dec (GOk g ∧ GOk h ∧ g = h))) ∧ Below w.heap.size w w' := by
  obtain ⟨u, rfl, hx0⟩ := id hx
  obtain ⟨v, rfl, hy0⟩ := id hy
  obtain ⟨p, c, rfl, hp, _, hn⟩ := hx0.shape
  obtain ⟨p', c', rfl, hp', _, hn'⟩ := hy0.shape
  have hb0 := Lib.hid (below_alloc2 w (.cells #[.slice p g.length c] 29) (.cells #[.slice p' h.length c'] 29))
  have BA := Lib.hid ((Box.new w (.slice p g.length c) 29).alloc (.cells #[.slice p' h.length c'] 29))
  have BB : Hid (Box ((w.alloc (.cells #[.slice p g.length c] 29)).alloc (.cells #[.slice p' h.length c'] 29)) (w.heap.size + 1) 29 (.slice p' h.length c')) := by
    have := Box.new (w.alloc (.cells #[.slice p g.length c] 29)) (.slice p' h.length c') 29
    rw [size_alloc] at this
    exact Lib.hid this
  have HX := Lib.hid (hx.below hb0.out)
  have HY := Lib.hid (hy.below hb0.out)
  have s0 := hb0.out.size
  have HRX := Lib.hid (hx0.below hb0.out)
  have HRY := Lib.hid (hy0.below hb0.out)
  clear hx hy hx0 hy0
  by_cases h1 : GOk g
  case neg =>
    have hd := dec_false h1
    have H1 := Lib.hid h1
    clear h1
    go_enter Tryd.func40, Tryd.ntmps40
    go_wp2_with (go_at_call 87; refine (implGraphOk_any _ g _ HX.out).mono ?_; rintro e w2 ⟨he, hb2⟩; rw [hd] at he; subst he)
    go_ret
    exact ⟨ret_bool (false_dec fun e => H1.out e.1), hb0.out.trans (hb2.mono s0)⟩
  have hd := dec_true h1
  have H1 := Lib.hid h1
  clear h1
  by_cases h2 : GOk h
  case neg =>
    have hd2 := dec_false h2
    have H2 := Lib.hid h2
    clear h2
    go_enter Tryd.func40, Tryd.ntmps40
    go_wp2_with (first
      | (go_at_call 87; refine (implGraphOk_any _ h _ (HY.out.below hb2)).mono ?_; rintro e w3 ⟨he, hb3⟩; rw [hd2] at he; subst he)
      | (go_at_call 87; refine (implGraphOk_any _ g _ HX.out).mono ?_; rintro e w2 ⟨he, hb2⟩; rw [hd] at he; subst he; have qb := (BB.out.keep hb2).cell))
    go_ret
    exact ⟨ret_bool (false_dec fun e => H2.out e.2.1), (hb0.out.trans (hb2.mono s0)).trans (hb3.mono (Nat.le_trans s0 hb2.size))⟩
  have hd2 := dec_true h2
  have H2 := Lib.hid h2
  clear h2
  go_enter Tryd.func40, Tryd.ntmps40
  go_wp2_with (first
    | (go_at_call 119; refine (equalFunc_any _ _ g h _ ((HRX.out.below hb2).below hb3) ((HRY.out.below hb2).below hb3)).mono ?_; rintro e w4 ⟨rfl, hb4⟩)
    | (go_at_call 87; refine (implGraphOk_any _ h _ (HY.out.below hb2)).mono ?_; rintro e w3 ⟨he, hb3⟩; rw [hd2] at he; subst he; have qa3 := ((BA.out.keep hb2).keep hb3).cell; have qb3 := ((BB.out.keep hb2).keep hb3).cell)
    | (go_at_call 87; refine (implGraphOk_any _ g _ HX.out).mono ?_; rintro e w2 ⟨he, hb2⟩; rw [hd] at he; subst he; have qb := (BB.out.keep hb2).cell))
  go_ret
  exact ⟨ret_bool (dec_congr ⟨fun e => ⟨H1.out, H2.out, e⟩, fun e => e.2.2⟩), ((hb0.out.trans (hb2.mono s0)).trans (hb3.mono (Nat.le_trans s0 hb2.size))).trans (hb4.mono (Nat.le_trans (Nat.le_trans s0 hb2.size) hb3.size))⟩


end Go.Proofs.YtkppbmfliejnmaaDoor
