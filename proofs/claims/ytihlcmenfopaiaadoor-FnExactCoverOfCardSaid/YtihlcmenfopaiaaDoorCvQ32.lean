/- Walks: l1Less, l12Bit, l12Set. -/
import Derived.Test.YtihlcmenfopaiaaDoorCvQ14
import Derived.Test.YtihlcmenfopaiaaDoorCvQ6
import Derived.Test.YtihlcmenfopaiaaDoorCvQ5
import Derived.Deep.RegionHeld3
import Derived.Deep.DeepCutAuto
import Derived.Test.YtihlcmenfopaiaaDoorCvQ15
import Derived.Test.YtihlcmenfopaiaaDoorCvQ20
import Derived.Test.YtihlcmenfopaiaaDoorCvQ21
namespace Go.Proofs.YtihlcmenfopaiaaDoor
open Go.RowKit

theorem natInts_atL {l : List Nat} {k : Nat} (h : k < l.length) {h' : k < (natInts l).length} : (natInts l)[k] = ((l[k] : Nat) : Int) := by simp [natInts]
theorem lexL_at : ∀ (i : Nat) (a b : List Nat) (ha : i < a.length) (hb : i < b.length), a.take i = b.take i → a[i] ≠ b[i] → (lexL a b ↔ a[i] < b[i])
  | _, [], _, ha, _, _, _ => by simp at ha
  | _, _ :: _, [], _, hb, _, _ => by simp at hb
  | 0, x :: a, y :: b, _, _, _, hne => by
    simp only [List.getElem_cons_zero] at hne ⊢
    simp only [lexL]
    exact ⟨fun h => h.elim id fun h => absurd h.1 hne, .inl⟩
  | i + 1, x :: a, y :: b, ha, hb, ht, hne => by
    simp only [List.take_succ_cons, List.cons.injEq] at ht
    obtain ⟨rfl, ht⟩ := ht
    simp only [List.getElem_cons_succ] at hne ⊢
    simp only [lexL]
    rw [← lexL_at i a b (by simpa using ha) (by simpa using hb) ht hne]
    exact ⟨fun h => h.elim (fun h => absurd h (Nat.lt_irrefl _)) fun h => h.2, fun h => .inr ⟨trivial, h⟩⟩


theorem i64_and_nat (a b : Nat) (ha : a < 4294967296) (hb : b < 4294967296) : bits BinOp.and IntKind.i64 (a : Int) (b : Int) = ((a &&& b : Nat) : Int) :=
  (bits_nat .i64 32 (by decide) (fun n h1 h2 => by rw [IntKind.wrap_i64]; omega) a b (by omega) (by omega)).1

theorem wrap_pow (v : Nat) (hv : v < 32) : wrap64 (2 ^ v) = ((2 ^ v : Nat) : Int) := by
  have h1 := pow_lt32 v hv
  have e : (2 ^ v : Int) = ((2 ^ v : Nat) : Int) := by simp
  rw [e]
  generalize (2 ^ v : Nat) = t at *
  unfold wrap64
  omega
set_option maxHeartbeats 400000 in
theorem l12Bit_any (z : Int) (v : Nat) (hz : z = v) (hv : v < 32) (w : World) :
    Calls Tryd.prog 140 #[.int .i64 z] w fun e w' => e = .returned (.int .i64 ((2 ^ v : Nat) : Int)) ∧ w = w' := by
  subst hz
  have HB : Hid (wrap64 (2 ^ v) = ((2 ^ v : Nat) : Int)) := Lib.hid (wrap_pow v hv)
  go_enter Tryd.func140, Tryd.ntmps140
  go_wp2
  go_ret
  refine ⟨?_, rfl⟩
  rw [← HB.out]
  rfl

theorem bit_ne (s k : Nat) (hs : s < 65536) (hk : k < 17) : (bits BinOp.and IntKind.i64 (s : Int) ((2 ^ k : Nat) : Int) != 0) = s.testBit k := by
  have h1 := pow_lt32 k (by omega)
  rw [i64_and_nat _ _ (by omega) h1, Bool.eq_iff_iff]
  constructor
  · intro h
    refine Decidable.byContradiction fun hn => ?_
    have h0 : s &&& 2 ^ k = 0 := Nat.eq_of_testBit_eq fun j => by
      rw [Nat.testBit_and, Nat.testBit_two_pow, Nat.zero_testBit]
      by_cases hj : k = j
      · subst hj
        simpa using hn
      · simp [hj]
    rw [h0] at h
    simp at h
  · intro h
    have h0 : s &&& 2 ^ k ≠ 0 := fun h0 => by
      have := congrArg (fun z => z.testBit k) h0
      simp [h] at this
    simp only [bne_iff_ne, ne_eq]
    omega



def lowB (s k : Nat) : List Nat := (List.range k).filter fun i => s.testBit i
theorem lowB_len (s k : Nat) : (lowB s k).length ≤ k := Nat.le_trans (List.length_filter_le _ _) (by simp)
theorem lowB_yes {s k : Nat} (h : s.testBit k = true) : lowB s (k + 1) = lowB s k ++ [k] := by simp [lowB, List.range_succ, h]
theorem lowB_no {s k : Nat} (h : s.testBit k = false) : lowB s (k + 1) = lowB s k := by simp [lowB, List.range_succ, h]
theorem lowB_end {s k : Nat} (hs : s < 2 ^ k) (hk : k ≤ 32) : lowB s k = bitsOf s :=
  rising_ext _ _ (List.Pairwise.filter _ List.pairwise_lt_range) (bitsOf_rising s) fun x => by
    rw [mem_bitsOf, lowB, List.mem_filter, List.mem_range]
    constructor
    · rintro ⟨a, b⟩
      exact ⟨by omega, b⟩
    · rintro ⟨a, b⟩
      refine ⟨Nat.lt_of_not_le fun hge => ?_, b⟩
      have := Nat.testBit_lt_two_pow (Nat.lt_of_lt_of_le hs (Nat.pow_le_pow_right (by decide) hge) : s < 2 ^ x)
      rw [this] at b
      exact nomatch b


end Go.Proofs.YtihlcmenfopaiaaDoor

/- Walks: l8Meet, l1All (the reference's cliques). -/
namespace Go.Proofs.YtihlcmenfopaiaaDoor
open Go.RowKit


theorem nums_at {w : World} {E : TypeId} {p : Option Addr} {m c : Nat} {xs : List Int} (h : Nums w E .i64 (.slice p m c) xs) : At w E p (xs.map (Value.int .i64)) := by
  obtain ⟨p', c', e, _, _, _, hat⟩ := h
  simp only [Value.slice.injEq] at e
  obtain ⟨rfl, _, _⟩ := e
  exact hat
/-- Those of xs that are in ys, up to the k-th. -/
def meetL (xs : List Nat) (ys : List Int) (k : Nat) : List Nat := (xs.take k).filter fun j => decide ((j : Int) ∈ ys)
theorem meetL_succ {xs : List Nat} {ys : List Int} {k : Nat} (h : k < xs.length) : meetL xs ys (k + 1) = if ((xs[k] : Nat) : Int) ∈ ys then meetL xs ys k ++ [xs[k]] else meetL xs ys k := by
  unfold meetL
  rw [take_snoc _ k h, List.filter_append]
  by_cases hm : ((xs[k] : Nat) : Int) ∈ ys
  · rw [if_pos hm]; simp [hm]
  · rw [if_neg hm]; simp [hm]
theorem meetL_len (xs : List Nat) (ys : List Int) (k : Nat) : (meetL xs ys k).length ≤ xs.length := Nat.le_trans (List.length_filter_le _ _) (by rw [List.length_take]; omega)

set_option maxRecDepth 100000 in
set_option maxHeartbeats 1000000 in
theorem l8Meet_any (u v : Value) (xs : List Nat) (ys : List Int) (hl : xs.length ≤ 1000) (w : World) (hx : Nums w 2 .i64 u (natInts xs)) (hy : Nums w 2 .i64 v ys) :
    Calls Tryd.prog 104 #[u, v] w fun e w' => ∃ ov, e = .returned ov ∧ w'.ownsRow w.heap.size 2 1 ov (meetL xs ys xs.length).length ((natInts (meetL xs ys xs.length)).map (Value.int .i64)) ∧ Below w.heap.size w w' := by
  have HX := Lib.hid hx
  have HY := Lib.hid hy
  obtain ⟨p, c, rfl, hp, _, hn, _⟩ := hx
  rw [natInts_length] at hn
  have HO := Lib.hid (ownsRow_empty w 2 1)
  have HB := Lib.hid (below_alloc w (.cells #[] 2))
  clear hy
  simp only [natInts_length] at *
  go_enter Tryd.func104, Tryd.ntmps104
  go_wp2
  go_loopw [5, 6] (fun o i wr => ∃ k : Nat, k ≤ xs.length ∧ i = .int .i64 k ∧ wr.ownsRow w.heap.size 2 1 o (meetL xs ys k).length ((natInts (meetL xs ys k)).map (Value.int .i64)) ∧ Below w.heap.size w wr) (fun _ i _ => xs.length - (intOf i).toNat)
  case atStart => exact ⟨0, Nat.zero_le _, rfl, HO.out, HB.out⟩
  case round =>
    obtain ⟨k, hk, rfl, hown, hbel⟩ := hrel
    have hsz := hbel.size
    have hml := meetL_len xs ys k
    by_cases hlt : k < xs.length
    · have hms := Lib.hid (meetL_succ (ys := ys) hlt)
      obtain ⟨b, o1, rfl, hcell⟩ := (nums_at (HX.out.below hbel)).num (k := k) (by rw [natInts_length]; exact hlt)
      rw [natInts_atL hlt] at hcell
      have e0 : (0 : Int) ≤ (k : Int) := by omega
      have e1 : (k : Int) < (xs.length : Int) := by omega
      generalize hV : xs[k]'hlt = v at hcell hms
      clear hV
      have HC := Lib.hid hown
      by_cases hin : (v : Int) ∈ ys
      · have hd := dec_true hin
        have hms2 := Lib.hid (hms.out.trans (if_pos hin))
        clear hin
        go_wp2_with (first
          | (go_at_call 137; refine (l1Has_any _ ys _ _ (HY.out.below hbel)).mono ?_; rintro e w4 ⟨he4, hw4⟩; rw [hd] at he4; subst he4; subst hw4)
          | (at_builtin; refine wpList_app1 ty_i64 rfl rfl rfl HC.out rfl rfl (by omega) (by omega) ?_; intro v' w1 hown' hg _))
        go_roundw
        case rel => exact ⟨k + 1, by omega, by go_num, by rw [hms2.out, show natInts (meetL xs ys k ++ [v]) = natInts (meetL xs ys k) ++ [(v : Int)] by simp [natInts], List.map_append, List.length_append]; exact hown', below_grown hbel HC.out hg (Nat.le_refl _) hsz⟩
        case measure => simp [intOf]; omega
      · have hd := dec_false hin
        have hms2 := Lib.hid (hms.out.trans (if_neg hin))
        clear hin
        go_wp2_with (go_at_call 137; refine (l1Has_any _ ys _ _ (HY.out.below hbel)).mono ?_; rintro e w4 ⟨he4, hw4⟩; rw [hd] at he4; subst he4; subst hw4)
        go_roundw
        case rel => exact ⟨k + 1, by omega, by go_num, by rw [hms2.out]; exact HC.out, hbel⟩
        case measure => simp [intOf]; omega
    · obtain rfl : k = xs.length := by omega
      go_wp2
      go_ret
      exact ⟨_, rfl, hown, hbel⟩

end Go.Proofs.YtihlcmenfopaiaaDoor
