/- Walks: l8Meet, l1All (the reference's cliques). -/
import Derived.Test.YtdkmnmnncccgaaaDoorClP
import Derived.Test.YtdkmnmnncccgaaaDoorLexW
import Derived.Test.YtdkmnmnncccgaaaDoorSpecB
import Derived.Test.YtdkmnmnncccgaaaDoorLink
import Derived.Deep.RegionHeld3
import Derived.Deep.DeepCutAuto
namespace Go.Proofs.YtdkmnmnncccgaaaDoor
open Go.RowKit

set_option maxRecDepth 100000 in
set_option maxHeartbeats 1000000 in
theorem l1All_any (z : Int) (n : Nat) (hz : z = n) (hn : n ≤ 1000) (w : World) :
    Calls Tryd.prog 40 #[.int .i64 z] w fun e w' => ∃ ov, e = .returned ov ∧ w'.ownsRow w.heap.size 2 1 ov n ((natInts (List.range n)).map (Value.int .i64)) ∧ Below w.heap.size w w' := by
  subst hz
  have HO := Lib.hid (ownsRow_empty w 2 1)
  have HB := Lib.hid (below_alloc w (.cells #[] 2))
  go_enter Tryd.func40, Tryd.ntmps40
  go_wp2
  go_loopw [3, 4] (fun o i wr => ∃ k : Nat, k ≤ n ∧ i = .int .i64 k ∧ wr.ownsRow w.heap.size 2 1 o k ((natInts (List.range k)).map (Value.int .i64)) ∧ Below w.heap.size w wr) (fun _ i _ => n - (intOf i).toNat)
  case atStart => exact ⟨0, Nat.zero_le _, rfl, HO.out, HB.out⟩
  case round =>
    obtain ⟨k, hk, rfl, hown, hbel⟩ := hrel
    have hsz := hbel.size
    by_cases hlt : k < n
    · go_wp2_with (at_builtin; refine wpList_app1 ty_i64 rfl rfl rfl hown rfl rfl (by omega) (by omega) ?_; intro v' w1 hown' hg _)
      go_roundw
      case rel => exact ⟨k + 1, by omega, by go_num, by rw [List.range_succ, show natInts (List.range k ++ [k]) = natInts (List.range k) ++ [(k : Int)] by simp [natInts], List.map_append]; exact hown', below_grown hbel hown hg (Nat.le_refl _) hsz⟩
      case measure => simp [intOf]; omega
    · obtain rfl : k = n := by omega
      go_wp2
      go_ret
      exact ⟨_, rfl, hown, hbel⟩

theorem nums_at {w : World} {E : TypeId} {p : Option Addr} {m c : Nat} {xs : List Int} (h : Nums w E .i64 (.slice p m c) xs) : At w E p (xs.map (Value.int .i64)) := by
  obtain ⟨p', c', e, _, _, _, hat⟩ := h
  simp only [Value.slice.injEq] at e
  obtain ⟨rfl, _, _⟩ := e
  exact hat
/-- Those of xs that are in ys, up to the k-th. -/
def meetL (xs : List Nat) (ys : List Int) (k : Nat) : List Nat := (xs.take k).filter fun j => decide ((j : Int) ∈ ys)
theorem meetL_succ {xs : List Nat} {ys : List Int} {k : Nat} (h : k < xs.length) : meetL xs ys (k + 1) = if ((xs[k] : Nat) : Int) ∈ ys then meetL xs ys k ++ [xs[k]] else meetL xs ys k := by
  unfold meetL
  rw [take_snoc _ k h, List.filter_append]
  by_cases hm : ((xs[k] : Nat) : Int) ∈ ys
  · rw [if_pos hm]; simp [hm]
  · rw [if_neg hm]; simp [hm]
theorem meetL_len (xs : List Nat) (ys : List Int) (k : Nat) : (meetL xs ys k).length ≤ xs.length := Nat.le_trans (List.length_filter_le _ _) (by rw [List.length_take]; omega)

set_option maxRecDepth 100000 in
set_option maxHeartbeats 1000000 in
theorem l8Meet_any (u v : Value) (xs : List Nat) (ys : List Int) (hl : xs.length ≤ 1000) (w : World) (hx : Nums w 2 .i64 u (natInts xs)) (hy : Nums w 2 .i64 v ys) :
    Calls Tryd.prog 64 #[u, v] w fun e w' => ∃ ov, e = .returned ov ∧ w'.ownsRow w.heap.size 2 1 ov (meetL xs ys xs.length).length ((natInts (meetL xs ys xs.length)).map (Value.int .i64)) ∧ Below w.heap.size w w' := by
  have HX := Lib.hid hx
  have HY := Lib.hid hy
  obtain ⟨p, c, rfl, hp, _, hn, _⟩ := hx
  rw [natInts_length] at hn
  have HO := Lib.hid (ownsRow_empty w 2 1)
  have HB := Lib.hid (below_alloc w (.cells #[] 2))
  clear hy
  simp only [natInts_length] at *
  go_enter Tryd.func64, Tryd.ntmps64
  go_wp2
  go_loopw [5, 6] (fun o i wr => ∃ k : Nat, k ≤ xs.length ∧ i = .int .i64 k ∧ wr.ownsRow w.heap.size 2 1 o (meetL xs ys k).length ((natInts (meetL xs ys k)).map (Value.int .i64)) ∧ Below w.heap.size w wr) (fun _ i _ => xs.length - (intOf i).toNat)
  case atStart => exact ⟨0, Nat.zero_le _, rfl, HO.out, HB.out⟩
  case round =>
    obtain ⟨k, hk, rfl, hown, hbel⟩ := hrel
    have hsz := hbel.size
    have hml := meetL_len xs ys k
    by_cases hlt : k < xs.length
    · have hms := Lib.hid (meetL_succ (ys := ys) hlt)
      obtain ⟨b, o1, rfl, hcell⟩ := (nums_at (HX.out.below hbel)).num (k := k) (by rw [natInts_length]; exact hlt)
      rw [natInts_atL hlt] at hcell
      have e0 : (0 : Int) ≤ (k : Int) := by omega
      have e1 : (k : Int) < (xs.length : Int) := by omega
      generalize hV : xs[k]'hlt = v at hcell hms
      clear hV
      have HC := Lib.hid hown
      by_cases hin : (v : Int) ∈ ys
      · have hd := dec_true hin
        have hms2 := Lib.hid (hms.out.trans (if_pos hin))
        clear hin
        go_wp2_with (first
          | (go_at_call 47; refine (l1Has_any _ ys _ _ (HY.out.below hbel)).mono ?_; rintro e w4 ⟨he4, hw4⟩; rw [hd] at he4; subst he4; subst hw4)
          | (at_builtin; refine wpList_app1 ty_i64 rfl rfl rfl HC.out rfl rfl (by omega) (by omega) ?_; intro v' w1 hown' hg _))
        go_roundw
        case rel => exact ⟨k + 1, by omega, by go_num, by rw [hms2.out, show natInts (meetL xs ys k ++ [v]) = natInts (meetL xs ys k) ++ [(v : Int)] by simp [natInts], List.map_append, List.length_append]; exact hown', below_grown hbel HC.out hg (Nat.le_refl _) hsz⟩
        case measure => simp [intOf]; omega
      · have hd := dec_false hin
        have hms2 := Lib.hid (hms.out.trans (if_neg hin))
        clear hin
        go_wp2_with (go_at_call 47; refine (l1Has_any _ ys _ _ (HY.out.below hbel)).mono ?_; rintro e w4 ⟨he4, hw4⟩; rw [hd] at he4; subst he4; subst hw4)
        go_roundw
        case rel => exact ⟨k + 1, by omega, by go_num, by rw [hms2.out]; exact HC.out, hbel⟩
        case measure => simp [intOf]; omega
    · obtain rfl : k = xs.length := by omega
      go_wp2
      go_ret
      exact ⟨_, rfl, hown, hbel⟩

end Go.Proofs.YtdkmnmnncccgaaaDoor
