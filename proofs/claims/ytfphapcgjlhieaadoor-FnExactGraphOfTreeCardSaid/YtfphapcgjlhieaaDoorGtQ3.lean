/- Plain facts, with no program in sight: valid graphs as lists of rows. -/
import Derived.Test.YtfphapcgjlhieaaDoorGtQ2
namespace Go.Proofs.YtfphapcgjlhieaaDoor

noncomputable def dec (p : Prop) : Bool := @decide p (Classical.propDecidable p)
theorem dec_true {p : Prop} (h : p) : dec p = true := by unfold dec; simp [h]
theorem dec_false {p : Prop} (h : ¬ p) : dec p = false := by unfold dec; simp [h]
theorem dec_iff {p : Prop} : dec p = true ↔ p := by unfold dec; simp
theorem dec_congr {p q : Prop} (h : p ↔ q) : dec p = dec q := by rw [propext h]
@[simp] theorem dec_True : dec True = true := dec_true trivial
@[simp] theorem dec_False : dec False = false := dec_false id
theorem decide_dec {p : Prop} [Decidable p] : decide p = dec p := by unfold dec; congr
theorem true_dec {p : Prop} (h : p) : true = dec p := (dec_true h).symm
theorem false_dec {p : Prop} (h : ¬ p) : false = dec p := (dec_false h).symm

/-- A strictly rising list of numbers from 0 to n - 1. -/
def SetIn (n : Int) (s : List Int) : Prop := (∀ x ∈ s, 0 ≤ x ∧ x < n) ∧ s.Pairwise (· < ·)

theorem setIn_nil (n : Int) : SetIn n [] := ⟨by simp, by simp⟩

theorem setIn_snoc {n : Int} {l : List Int} {x : Int} : SetIn n (l ++ [x]) ↔ SetIn n l ∧ (0 ≤ x ∧ x < n) ∧ ∀ y ∈ l, y < x := by
  unfold SetIn
  rw [List.pairwise_append]
  constructor
  · rintro ⟨h1, h2, _, h3⟩
    exact ⟨⟨fun y hy => h1 y (by simp [hy]), h2⟩, h1 x (by simp), fun y hy => h3 y hy x (by simp)⟩
  · rintro ⟨⟨h1, h2⟩, h3, h4⟩
    refine ⟨fun y hy => ?_, h2, by simp, fun y hy z hz => ?_⟩
    · rcases List.mem_append.1 hy with h | h
      · exact h1 y h
      · simp at h; subst h; exact h3
    · simp at hz; subst hz; exact h4 y hy

theorem pairwise_last {s : List Int} (h : s.Pairwise (· < ·)) (hl : 0 < s.length) : ∀ y ∈ s, y ≤ s[s.length - 1] := by
  intro y hy
  obtain ⟨i, hi, rfl⟩ := List.mem_iff_getElem.1 hy
  by_cases e : i = s.length - 1
  · subst e; exact Int.le_refl _
  · have := (List.pairwise_iff_getElem.1 h) i (s.length - 1) hi (by omega) (by omega)
    omega

theorem setIn_step {n : Int} {s : List Int} {k : Nat} (hk : k < s.length) :
    SetIn n (s.take (k + 1)) ↔ SetIn n (s.take k) ∧ (0 ≤ s[k] ∧ s[k] < n) ∧ (0 < k → s[k - 1]'(by omega) < s[k]) := by
  rw [List.take_succ_eq_append_getElem hk, setIn_snoc]
  constructor
  · rintro ⟨h1, h2, h3⟩
    refine ⟨h1, h2, fun h0 => h3 _ ?_⟩
    rw [List.mem_iff_getElem]
    exact ⟨k - 1, by rw [List.length_take]; omega, by simp⟩
  · rintro ⟨h1, h2, h3⟩
    refine ⟨h1, h2, fun y hy => ?_⟩
    have hl : (s.take k).length = k := by rw [List.length_take]; omega
    have h0 : 0 < k := by
      cases k with
      | zero => simp at hy
      | succ k => omega
    have h4 := pairwise_last h1.2 (by omega) y hy
    have h5 : (s.take k)[(s.take k).length - 1]'(by omega) = s[k - 1]'(by omega) := by simp [hl]
    rw [h5] at h4
    have := h3 h0
    omega

theorem setIn_take {n : Int} {s : List Int} (h : SetIn n s) (k : Nat) : SetIn n (s.take k) :=
  ⟨fun x hx => h.1 x (List.mem_of_mem_take hx), h.2.sublist (List.take_sublist _ _)⟩

theorem setIn_ge {n : Int} {s : List Int} (h : SetIn n s) : ∀ i (hi : i < s.length), (i : Int) ≤ s[i] := by
  intro i
  induction i with
  | zero => intro hi; exact (h.1 _ (List.getElem_mem hi)).1
  | succ i ih =>
    intro hi
    have h1 := ih (by omega)
    have h2 := (List.pairwise_iff_getElem.1 h.2) i (i + 1) (by omega) hi (by omega)
    omega

theorem setIn_length {n : Int} (hn : 0 ≤ n) {s : List Int} (h : SetIn n s) : (s.length : Int) ≤ n := by
  by_cases h0 : s.length = 0
  · omega
  · have h1 := setIn_ge h (s.length - 1) (by omega)
    have h2 := (h.1 _ (List.getElem_mem (show s.length - 1 < s.length by omega))).2
    omega

/-- Two strictly rising lists with the same members are equal. -/
theorem rising_ext_int : ∀ (l m : List Int), l.Pairwise (· < ·) → m.Pairwise (· < ·) → (∀ x, x ∈ l ↔ x ∈ m) → l = m
  | [], [], _, _, _ => rfl
  | [], b :: m, _, _, h => by have := (h b).2 (by simp); simp at this
  | a :: l, [], _, _, h => by have := (h a).1 (by simp); simp at this
  | a :: l, b :: m, hl, hm, h => by
    rw [List.pairwise_cons] at hl hm
    have hab : a = b := by
      have h1 := (h a).1 (by simp)
      have h2 := (h b).2 (by simp)
      simp only [List.mem_cons] at h1 h2
      rcases h1 with h1 | h1
      · exact h1
      · rcases h2 with h2 | h2
        · exact h2.symm
        · have := hm.1 a h1; have := hl.1 b h2; omega
    subst hab
    congr 1
    refine rising_ext_int l m hl.2 hm.2 fun x => ?_
    have hx := h x
    simp only [List.mem_cons] at hx
    constructor
    · intro hxl
      have := hl.1 x hxl
      rcases hx.1 (.inr hxl) with e | e
      · omega
      · exact e
    · intro hxm
      have := hm.1 x hxm
      rcases hx.2 (.inr hxm) with e | e
      · omega
      · exact e

/-- Row v of a graph. -/
def row (g : List (List Int)) (v : Nat) : List Int := g.getD v []

/-- A graph is valid. -/
structure GOk (g : List (List Int)) : Prop where
  pos : 1 ≤ g.length
  le : g.length ≤ 16
  sets : ∀ v, v < g.length → SetIn g.length (row g v) ∧ ((v : Int) ∉ row g v)
  both : ∀ v, v < g.length → ∀ u ∈ row g v, (v : Int) ∈ row g u.toNat

theorem take_snoc' {α : Type} (l : List α) (k : Nat) (h : k < l.length) : l.take (k + 1) = l.take k ++ [l[k]] := List.take_succ_eq_append_getElem h

theorem not_mem_take_succ {x : Int} {s : List Int} {k : Nat} (hk : k < s.length) (h : x ∉ s.take k) (h2 : s[k] ≠ x) : x ∉ s.take (k + 1) := by
  rw [take_snoc' s k hk]
  simp only [List.mem_append, List.mem_singleton, not_or]
  exact ⟨h, fun e => h2 e.symm⟩

theorem mem_of_getElem {x : Int} {s : List Int} {k : Nat} (hk : k < s.length) (h : s[k] = x) : x ∈ s := h ▸ List.getElem_mem hk

end Go.Proofs.YtfphapcgjlhieaaDoor

/- Walks: the reference's small functions on lists of numbers, and both GraphOk. -/
namespace Go.Proofs.YtfphapcgjlhieaaDoor
open Go.RowKit

set_option maxHeartbeats 400000 in
theorem l1In_any (x lo hi : Int) (w : World) :
    Calls Tryd.prog 60 #[.int .i64 x, .int .i64 lo, .int .i64 hi] w fun e w' => e = .returned (.bool (dec (lo ≤ x ∧ x ≤ hi))) ∧ w = w' := by
  by_cases h1 : lo ≤ x
  · by_cases h2 : x ≤ hi
    · go_enter Tryd.func60, Tryd.ntmps60
      go_wp2
      go_ret
      exact ⟨ret_bool (true_dec ⟨h1, h2⟩), rfl⟩
    · go_enter Tryd.func60, Tryd.ntmps60
      go_wp2
      go_ret
      exact ⟨ret_bool (false_dec (by omega)), rfl⟩
  · go_enter Tryd.func60, Tryd.ntmps60
    go_wp2
    go_ret
    exact ⟨ret_bool (false_dec (by omega)), rfl⟩

set_option maxHeartbeats 400000 in
theorem inRange_any (x lo hi : Int) (w : World) :
    Calls Tryd.prog 64 #[.int .i64 x, .int .i64 lo, .int .i64 hi] w fun e w' => e = .returned (.bool (dec (lo ≤ x ∧ x ≤ hi))) ∧ w = w' := by
  by_cases h1 : lo ≤ x
  · by_cases h2 : x ≤ hi
    · go_enter Tryd.func64, Tryd.ntmps64
      go_wp2
      go_ret
      exact ⟨ret_bool (true_dec ⟨h1, h2⟩), rfl⟩
    · go_enter Tryd.func64, Tryd.ntmps64
      go_wp2
      go_ret
      exact ⟨ret_bool (false_dec (by omega)), rfl⟩
  · go_enter Tryd.func64, Tryd.ntmps64
    go_wp2
    go_ret
    exact ⟨ret_bool (false_dec (by omega)), rfl⟩

set_option maxRecDepth 100000 in
set_option maxHeartbeats 400000 in
theorem l1Has_any (v : Value) (xs : List Int) (n : Int) (w : World) (hx : Nums w 2 .i64 v xs) :
    Calls Tryd.prog 101 #[v, .int .i64 n] w fun e w' => e = .returned (.bool (dec (n ∈ xs))) ∧ w = w' := by
  obtain ⟨p, c, rfl, _, _, hn, hat⟩ := hx
  go_enter Tryd.func101, Tryd.ntmps101
  go_wp2
  go_loop [5] (fun i => ∃ k : Nat, k ≤ xs.length ∧ i = .int .i64 k ∧ n ∉ xs.take k) (fun i => xs.length - (intOf i).toNat)
  case atStart => exact ⟨0, Nat.zero_le _, rfl, by simp⟩
  case round =>
    obtain ⟨k, hk, rfl, hnk⟩ := hrel
    by_cases hlt : k < xs.length
    · obtain ⟨b, o, rfl, hcell⟩ := hat.num hlt
      clear hat
      by_cases he : xs[k] = n
      · have he' : (xs[k] == n) = true := by simpa using he
        have H := Lib.hid he
        clear he
        go_wp2
        go_ret
        exact ⟨ret_bool (true_dec (mem_of_getElem hlt H.out)), rfl⟩
      · have he' : (xs[k] == n) = false := by simpa using he
        go_wp2
        go_round
        case rel => exact ⟨k + 1, by omega, by go_num, not_mem_take_succ hlt hnk he⟩
        case measure => simp [intOf]; omega
    · obtain rfl : k = xs.length := by omega
      go_wp2
      go_ret
      rw [List.take_length] at hnk
      exact ⟨ret_bool (false_dec hnk), rfl⟩

set_option maxRecDepth 100000 in
set_option maxHeartbeats 400000 in
theorem index_any (v : Value) (xs : List Int) (n : Int) (w : World) (hx : Nums w 2 .i64 v xs) :
    Calls Tryd.prog 153 #[v, .int .i64 n] w fun e w' => (∃ z : Int, e = .returned (.int .i64 z) ∧ -1 ≤ z ∧ z ≤ 1000000000 ∧ (0 ≤ z ↔ n ∈ xs)) ∧ w = w' := by
  obtain ⟨p, c, rfl, _, _, hn, hat⟩ := hx
  go_enter Tryd.func153, Tryd.ntmps153
  go_wp2
  go_loop [5, 8] (fun _ i => ∃ k : Nat, k ≤ xs.length ∧ i = .int .i64 k ∧ n ∉ xs.take k) (fun _ i => xs.length - (intOf i).toNat)
  case atStart => exact ⟨0, Nat.zero_le _, rfl, by simp⟩
  case round =>
    obtain ⟨k, hk, rfl, hnk⟩ := hrel
    by_cases hlt : k < xs.length
    · obtain ⟨b, o, rfl, hcell⟩ := hat.num hlt
      clear hat
      by_cases he : xs[k] = n
      · have he' : (n == xs[k]) = true := by simpa using he.symm
        have H := Lib.hid he
        clear he
        go_wp2
        go_ret
        exact ⟨⟨(k : Int), rfl, by omega, by omega, fun _ => mem_of_getElem hlt H.out, fun _ => by omega⟩, rfl⟩
      · have he' : (n == xs[k]) = false := by simpa using fun e => he e.symm
        go_wp2
        go_round
        case rel => exact ⟨k + 1, by omega, by go_num, not_mem_take_succ hlt hnk he⟩
        case measure => simp [intOf]; omega
    · obtain rfl : k = xs.length := by omega
      go_wp2
      go_ret
      rw [List.take_length] at hnk
      exact ⟨⟨-1, rfl, by omega, by omega, fun h => by omega, fun h => absurd h hnk⟩, rfl⟩

set_option maxRecDepth 100000 in
set_option maxHeartbeats 400000 in
theorem contains_any (v : Value) (xs : List Int) (n : Int) (w : World) (hx : Nums w 2 .i64 v xs) :
    Calls Tryd.prog 121 #[v, .int .i64 n] w fun e w' => e = .returned (.bool (dec (n ∈ xs))) ∧ w = w' := by
  go_enter Tryd.func121, Tryd.ntmps121
  go_wp2_with (go_at_call 153; refine (index_any _ xs n _ hx).mono ?_; rintro e w' ⟨⟨z, rfl, hz1, hz2, hz3⟩, rfl⟩)
  go_ret
  exact ⟨ret_bool decide_dec, rfl⟩

set_option maxRecDepth 100000 in
set_option maxHeartbeats 1000000 in
theorem l1Set_any (v : Value) (xs : List Int) (n : Int) (h0 : 0 ≤ n) (h1 : n ≤ 1000000000) (w : World) (hx : Nums w 2 .i64 v xs) :
    Calls Tryd.prog 125 #[v, .int .i64 n] w fun e w' => e = .returned (.bool (dec (SetIn n xs))) ∧ Below w.heap.size w w' := by
  obtain ⟨p, c, rfl, _, _, hn, hat⟩ := hx
  have hatW : ∀ wr, Below w.heap.size w wr → At wr 2 p (xs.map (Value.int .i64)) := fun wr hb => hat.keep fun b _ _ _ _ h => hb.block b (Array.getElem?_eq_some_iff.1 h).1
  by_cases hlen : n < (xs.length : Int)
  · go_enter Tryd.func125, Tryd.ntmps125
    go_wp2
    go_ret
    exact ⟨ret_bool (false_dec fun h => by have := setIn_length h0 h; omega), Below.refl _ _⟩
  go_enter Tryd.func125, Tryd.ntmps125
  go_wp2
  go_loopw [5] (fun i wr => ∃ k : Nat, k ≤ xs.length ∧ i = .int .i64 k ∧ SetIn n (xs.take k) ∧ Below w.heap.size w wr) (fun i _ => xs.length - (intOf i).toNat)
  case atStart => exact ⟨0, Nat.zero_le _, rfl, by simpa using setIn_nil n, Below.refl _ _⟩
  case round =>
    obtain ⟨k, hk, rfl, hset, hbel⟩ := hrel
    by_cases hlt : k < xs.length
    · obtain ⟨b, o, rfl, hcs⟩ := (hatW wr hbel).cells (k := k) (by simpa using hlt)
      have hcell : wr.cell? ⟨b, o + k, none⟩ = some (.int .i64 xs[k]) := hcs k _ (by simp [hlt])
      have hcell' : 0 < k → ∃ y, y = xs[k - 1]'(by omega) ∧ wr.cell? ⟨b, o + (k - 1), none⟩ = some (.int .i64 y) := fun hk0 => ⟨_, rfl, hcs (k - 1) _ (by rw [List.getElem?_map, List.getElem?_eq_getElem (by omega)]; rfl)⟩
      have hstep := setIn_step (n := n) hlt
      clear hcs hatW hat
      have Hset := Lib.hid hset
      have Hstep := Lib.hid hstep
      clear hset hstep
      have e1 : IntKind.i64.wrap (n - 1) = n - 1 := IntWalk.i64_in _ (by omega)
      by_cases hin : 0 ≤ xs[k] ∧ xs[k] ≤ n - 1
      · have hin' := dec_true hin
        by_cases hk0 : 0 < k
        · obtain ⟨y, hy, hcy⟩ := hcell' hk0
          clear hcell'
          have Hy := Lib.hid hy
          clear hy
          have hkd : decide ((0 : Int) < (k : Int)) = true := by simpa using hk0
          have e2 : IntKind.i64.wrap ((k : Int) - 1) = (k : Int) - 1 := IntWalk.i64_in _ (by omega)
          have e3 : 0 ≤ (k : Int) - 1 := by omega
          have e4 : ((k : Int) - 1).toNat = k - 1 := by omega
          have e5 : (k : Int) - 1 < (xs.length : Int) := by omega
          by_cases hle : xs[k] ≤ y
          · have hled : decide (xs[k] ≤ y) = true := by simpa using hle
            go_wp2
            go_quiet ((go_at_call 60; exact Calls.quiet_of_same (flip (l1In_any _ _ _ _))))
            go_wp2
            go_ret
            exact ⟨ret_bool (false_dec fun h => by have h3 := (Hstep.out.1 (setIn_take h _)).2.2 hk0; have := Hy.out; omega), below_dN hbel _⟩
          · have hled : decide (xs[k] ≤ y) = false := by simpa using hle
            go_wp2
            go_quiet ((go_at_call 60; exact Calls.quiet_of_same (flip (l1In_any _ _ _ _))))
            go_wp2
            go_roundw
            case rel => exact ⟨k + 1, by omega, by go_num, Hstep.out.2 ⟨Hset.out, by omega, fun _ => by have := Hy.out; omega⟩, below_dN hbel _⟩
            case measure => simp [intOf]; omega
        · have hkd : decide ((0 : Int) < (k : Int)) = false := by simpa using hk0
          go_wp2
          go_quiet ((go_at_call 60; exact Calls.quiet_of_same (flip (l1In_any _ _ _ _))))
          go_wp2
          go_roundw
          case rel => exact ⟨k + 1, by omega, by go_num, Hstep.out.2 ⟨Hset.out, by omega, fun h => absurd h hk0⟩, below_dN hbel _⟩
          case measure => simp [intOf]; omega
      · have hin' := dec_false hin
        have Hin := Lib.hid hin
        clear hin
        go_wp2
        go_quiet ((go_at_call 60; exact Calls.quiet_of_same (flip (l1In_any _ _ _ _))))
        go_wp2
        go_ret
        exact ⟨ret_bool (false_dec fun h => by have h3 := (Hstep.out.1 (setIn_take h _)).2.1; have := Hin.out; omega), below_dN hbel _⟩
    · obtain rfl : k = xs.length := by omega
      go_wp2
      go_ret
      rw [List.take_length] at hset
      exact ⟨ret_bool (true_dec hset), hbel⟩

end Go.Proofs.YtfphapcgjlhieaaDoor
