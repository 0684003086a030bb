/- Plain facts, with no program in sight: valid graphs as lists of rows. -/
import Derived.Test.YtiooindlpinjhaaDoorBbQ2
namespace Go.Proofs.YtiooindlpinjhaaDoor

noncomputable def dec (p : Prop) : Bool := @decide p (Classical.propDecidable p)
theorem dec_true {p : Prop} (h : p) : dec p = true := by unfold dec; simp [h]
theorem dec_false {p : Prop} (h : ¬ p) : dec p = false := by unfold dec; simp [h]
theorem dec_iff {p : Prop} : dec p = true ↔ p := by unfold dec; simp
theorem dec_congr {p q : Prop} (h : p ↔ q) : dec p = dec q := by rw [propext h]
@[simp] theorem dec_True : dec True = true := dec_true trivial
@[simp] theorem dec_False : dec False = false := dec_false id
theorem decide_dec {p : Prop} [Decidable p] : decide p = dec p := by unfold dec; congr
theorem true_dec {p : Prop} (h : p) : true = dec p := (dec_true h).symm
theorem false_dec {p : Prop} (h : ¬ p) : false = dec p := (dec_false h).symm

/-- A strictly rising list of numbers from 0 to n - 1. -/
def SetIn (n : Int) (s : List Int) : Prop := (∀ x ∈ s, 0 ≤ x ∧ x < n) ∧ s.Pairwise (· < ·)

theorem setIn_nil (n : Int) : SetIn n [] := ⟨by simp, by simp⟩

theorem setIn_snoc {n : Int} {l : List Int} {x : Int} : SetIn n (l ++ [x]) ↔ SetIn n l ∧ (0 ≤ x ∧ x < n) ∧ ∀ y ∈ l, y < x := by
  unfold SetIn
  rw [List.pairwise_append]
  constructor
  · rintro ⟨h1, h2, _, h3⟩
    exact ⟨⟨fun y hy => h1 y (by simp [hy]), h2⟩, h1 x (by simp), fun y hy => h3 y hy x (by simp)⟩
  · rintro ⟨⟨h1, h2⟩, h3, h4⟩
    refine ⟨fun y hy => ?_, h2, by simp, fun y hy z hz => ?_⟩
    · rcases List.mem_append.1 hy with h | h
      · exact h1 y h
      · simp at h; subst h; exact h3
    · simp at hz; subst hz; exact h4 y hy

theorem pairwise_last {s : List Int} (h : s.Pairwise (· < ·)) (hl : 0 < s.length) : ∀ y ∈ s, y ≤ s[s.length - 1] := by
  intro y hy
  obtain ⟨i, hi, rfl⟩ := List.mem_iff_getElem.1 hy
  by_cases e : i = s.length - 1
  · subst e; exact Int.le_refl _
  · have := (List.pairwise_iff_getElem.1 h) i (s.length - 1) hi (by omega) (by omega)
    omega

theorem setIn_step {n : Int} {s : List Int} {k : Nat} (hk : k < s.length) :
    SetIn n (s.take (k + 1)) ↔ SetIn n (s.take k) ∧ (0 ≤ s[k] ∧ s[k] < n) ∧ (0 < k → s[k - 1]'(by omega) < s[k]) := by
  rw [List.take_succ_eq_append_getElem hk, setIn_snoc]
  constructor
  · rintro ⟨h1, h2, h3⟩
    refine ⟨h1, h2, fun h0 => h3 _ ?_⟩
    rw [List.mem_iff_getElem]
    exact ⟨k - 1, by rw [List.length_take]; omega, by simp⟩
  · rintro ⟨h1, h2, h3⟩
    refine ⟨h1, h2, fun y hy => ?_⟩
    have hl : (s.take k).length = k := by rw [List.length_take]; omega
    have h0 : 0 < k := by
      cases k with
      | zero => simp at hy
      | succ k => omega
    have h4 := pairwise_last h1.2 (by omega) y hy
    have h5 : (s.take k)[(s.take k).length - 1]'(by omega) = s[k - 1]'(by omega) := by simp [hl]
    rw [h5] at h4
    have := h3 h0
    omega

theorem setIn_take {n : Int} {s : List Int} (h : SetIn n s) (k : Nat) : SetIn n (s.take k) :=
  ⟨fun x hx => h.1 x (List.mem_of_mem_take hx), h.2.sublist (List.take_sublist _ _)⟩

theorem setIn_ge {n : Int} {s : List Int} (h : SetIn n s) : ∀ i (hi : i < s.length), (i : Int) ≤ s[i] := by
  intro i
  induction i with
  | zero => intro hi; exact (h.1 _ (List.getElem_mem hi)).1
  | succ i ih =>
    intro hi
    have h1 := ih (by omega)
    have h2 := (List.pairwise_iff_getElem.1 h.2) i (i + 1) (by omega) hi (by omega)
    omega

theorem setIn_length {n : Int} (hn : 0 ≤ n) {s : List Int} (h : SetIn n s) : (s.length : Int) ≤ n := by
  by_cases h0 : s.length = 0
  · omega
  · have h1 := setIn_ge h (s.length - 1) (by omega)
    have h2 := (h.1 _ (List.getElem_mem (show s.length - 1 < s.length by omega))).2
    omega

/-- Two strictly rising lists with the same members are equal. -/
theorem rising_ext_int : ∀ (l m : List Int), l.Pairwise (· < ·) → m.Pairwise (· < ·) → (∀ x, x ∈ l ↔ x ∈ m) → l = m
  | [], [], _, _, _ => rfl
  | [], b :: m, _, _, h => by have := (h b).2 (by simp); simp at this
  | a :: l, [], _, _, h => by have := (h a).1 (by simp); simp at this
  | a :: l, b :: m, hl, hm, h => by
    rw [List.pairwise_cons] at hl hm
    have hab : a = b := by
      have h1 := (h a).1 (by simp)
      have h2 := (h b).2 (by simp)
      simp only [List.mem_cons] at h1 h2
      rcases h1 with h1 | h1
      · exact h1
      · rcases h2 with h2 | h2
        · exact h2.symm
        · have := hm.1 a h1; have := hl.1 b h2; omega
    subst hab
    congr 1
    refine rising_ext_int l m hl.2 hm.2 fun x => ?_
    have hx := h x
    simp only [List.mem_cons] at hx
    constructor
    · intro hxl
      have := hl.1 x hxl
      rcases hx.1 (.inr hxl) with e | e
      · omega
      · exact e
    · intro hxm
      have := hm.1 x hxm
      rcases hx.2 (.inr hxm) with e | e
      · omega
      · exact e

/-- Row v of a graph. -/
def row (g : List (List Int)) (v : Nat) : List Int := g.getD v []

/-- A graph is valid. -/
structure GOk (g : List (List Int)) : Prop where
  pos : 1 ≤ g.length
  le : g.length ≤ 16
  sets : ∀ v, v < g.length → SetIn g.length (row g v) ∧ ((v : Int) ∉ row g v)
  both : ∀ v, v < g.length → ∀ u ∈ row g v, (v : Int) ∈ row g u.toNat

theorem take_snoc' {α : Type} (l : List α) (k : Nat) (h : k < l.length) : l.take (k + 1) = l.take k ++ [l[k]] := List.take_succ_eq_append_getElem h

theorem not_mem_take_succ {x : Int} {s : List Int} {k : Nat} (hk : k < s.length) (h : x ∉ s.take k) (h2 : s[k] ≠ x) : x ∉ s.take (k + 1) := by
  rw [take_snoc' s k hk]
  simp only [List.mem_append, List.mem_singleton, not_or]
  exact ⟨h, fun e => h2 e.symm⟩

theorem mem_of_getElem {x : Int} {s : List Int} {k : Nat} (hk : k < s.length) (h : s[k] = x) : x ∈ s := h ▸ List.getElem_mem hk

end Go.Proofs.YtiooindlpinjhaaDoor

/- Walks: the reference's small functions on lists of numbers, and both GraphOk. -/
namespace Go.Proofs.YtiooindlpinjhaaDoor
open Go.RowKit

set_option maxHeartbeats 400000 in
theorem l1In_any (x lo hi : Int) (w : World) :
    Calls Tryd.prog 116 #[.int .i64 x, .int .i64 lo, .int .i64 hi] w fun e w' => e = .returned (.bool (dec (lo ≤ x ∧ x ≤ hi))) ∧ w = w' := by
  by_cases h1 : lo ≤ x
  · by_cases h2 : x ≤ hi
    · go_enter Tryd.func116, Tryd.ntmps116
      go_wp2
      go_ret
      exact ⟨ret_bool (true_dec ⟨h1, h2⟩), rfl⟩
    · go_enter Tryd.func116, Tryd.ntmps116
      go_wp2
      go_ret
      exact ⟨ret_bool (false_dec (by omega)), rfl⟩
  · go_enter Tryd.func116, Tryd.ntmps116
    go_wp2
    go_ret
    exact ⟨ret_bool (false_dec (by omega)), rfl⟩

set_option maxHeartbeats 400000 in
theorem inRange_any (x lo hi : Int) (w : World) :
    Calls Tryd.prog 153 #[.int .i64 x, .int .i64 lo, .int .i64 hi] w fun e w' => e = .returned (.bool (dec (lo ≤ x ∧ x ≤ hi))) ∧ w = w' := by
  by_cases h1 : lo ≤ x
  · by_cases h2 : x ≤ hi
    · go_enter Tryd.func153, Tryd.ntmps153
      go_wp2
      go_ret
      exact ⟨ret_bool (true_dec ⟨h1, h2⟩), rfl⟩
    · go_enter Tryd.func153, Tryd.ntmps153
      go_wp2
      go_ret
      exact ⟨ret_bool (false_dec (by omega)), rfl⟩
  · go_enter Tryd.func153, Tryd.ntmps153
    go_wp2
    go_ret
    exact ⟨ret_bool (false_dec (by omega)), rfl⟩

set_option maxRecDepth 100000 in
set_option maxHeartbeats 400000 in
theorem l1Has_any (v : Value) (xs : List Int) (n : Int) (w : World) (hx : Nums w 2 .i64 v xs) :
    Calls Tryd.prog 72 #[v, .int .i64 n] w fun e w' => e = .returned (.bool (dec (n ∈ xs))) ∧ w = w' := by
  obtain ⟨p, c, rfl, _, _, hn, hat⟩ := hx
  go_enter Tryd.func72, Tryd.ntmps72
  go_wp2
  go_loop [5] (fun i => ∃ k : Nat, k ≤ xs.length ∧ i = .int .i64 k ∧ n ∉ xs.take k) (fun i => xs.length - (intOf i).toNat)
  case atStart => exact ⟨0, Nat.zero_le _, rfl, by simp⟩
  case round =>
    obtain ⟨k, hk, rfl, hnk⟩ := hrel
    by_cases hlt : k < xs.length
    · obtain ⟨b, o, rfl, hcell⟩ := hat.num hlt
      clear hat
      by_cases he : xs[k] = n
      · have he' : (xs[k] == n) = true := by simpa using he
        have H := Lib.hid he
        clear he
        go_wp2
        go_ret
        exact ⟨ret_bool (true_dec (mem_of_getElem hlt H.out)), rfl⟩
      · have he' : (xs[k] == n) = false := by simpa using he
        go_wp2
        go_round
        case rel => exact ⟨k + 1, by omega, by go_num, not_mem_take_succ hlt hnk he⟩
        case measure => simp [intOf]; omega
    · obtain rfl : k = xs.length := by omega
      go_wp2
      go_ret
      rw [List.take_length] at hnk
      exact ⟨ret_bool (false_dec hnk), rfl⟩

set_option maxRecDepth 100000 in
set_option maxHeartbeats 400000 in
theorem index_any (v : Value) (xs : List Int) (n : Int) (w : World) (hx : Nums w 2 .i64 v xs) :
    Calls Tryd.prog 154 #[v, .int .i64 n] w fun e w' => (∃ z : Int, e = .returned (.int .i64 z) ∧ -1 ≤ z ∧ z ≤ 1000000000 ∧ (0 ≤ z ↔ n ∈ xs)) ∧ w = w' := by
  obtain ⟨p, c, rfl, _, _, hn, hat⟩ := hx
  go_enter Tryd.func154, Tryd.ntmps154
  go_wp2
  go_loop [5, 8] (fun _ i => ∃ k : Nat, k ≤ xs.length ∧ i = .int .i64 k ∧ n ∉ xs.take k) (fun _ i => xs.length - (intOf i).toNat)
  case atStart => exact ⟨0, Nat.zero_le _, rfl, by simp⟩
  case round =>
    obtain ⟨k, hk, rfl, hnk⟩ := hrel
    by_cases hlt : k < xs.length
    · obtain ⟨b, o, rfl, hcell⟩ := hat.num hlt
      clear hat
      by_cases he : xs[k] = n
      · have he' : (n == xs[k]) = true := by simpa using he.symm
        have H := Lib.hid he
        clear he
        go_wp2
        go_ret
        exact ⟨⟨(k : Int), rfl, by omega, by omega, fun _ => mem_of_getElem hlt H.out, fun _ => by omega⟩, rfl⟩
      · have he' : (n == xs[k]) = false := by simpa using fun e => he e.symm
        go_wp2
        go_round
        case rel => exact ⟨k + 1, by omega, by go_num, not_mem_take_succ hlt hnk he⟩
        case measure => simp [intOf]; omega
    · obtain rfl : k = xs.length := by omega
      go_wp2
      go_ret
      rw [List.take_length] at hnk
      exact ⟨⟨-1, rfl, by omega, by omega, fun h => by omega, fun h => absurd h hnk⟩, rfl⟩

set_option maxRecDepth 100000 in
set_option maxHeartbeats 400000 in
theorem contains_any (v : Value) (xs : List Int) (n : Int) (w : World) (hx : Nums w 2 .i64 v xs) :
    Calls Tryd.prog 122 #[v, .int .i64 n] w fun e w' => e = .returned (.bool (dec (n ∈ xs))) ∧ w = w' := by
  go_enter Tryd.func122, Tryd.ntmps122
  go_wp2_with (go_at_call 154; refine (index_any _ xs n _ hx).mono ?_; rintro e w' ⟨⟨z, rfl, hz1, hz2, hz3⟩, rfl⟩)
  go_ret
  exact ⟨ret_bool decide_dec, rfl⟩

set_option maxRecDepth 100000 in
set_option maxHeartbeats 1000000 in
theorem l1Set_any (v : Value) (xs : List Int) (n : Int) (h0 : 0 ≤ n) (h1 : n ≤ 1000000000) (w : World) (hx : Nums w 2 .i64 v xs) :
    Calls Tryd.prog 117 #[v, .int .i64 n] w fun e w' => e = .returned (.bool (dec (SetIn n xs))) ∧ Below w.heap.size w w' := by
  obtain ⟨p, c, rfl, _, _, hn, hat⟩ := hx
  have hatW : ∀ wr, Below w.heap.size w wr → At wr 2 p (xs.map (Value.int .i64)) := fun wr hb => hat.keep fun b _ _ _ _ h => hb.block b (Array.getElem?_eq_some_iff.1 h).1
  by_cases hlen : n < (xs.length : Int)
  · go_enter Tryd.func117, Tryd.ntmps117
    go_wp2
    go_ret
    exact ⟨ret_bool (false_dec fun h => by have := setIn_length h0 h; omega), Below.refl _ _⟩
  go_enter Tryd.func117, Tryd.ntmps117
  go_wp2
  go_loopw [5] (fun i wr => ∃ k : Nat, k ≤ xs.length ∧ i = .int .i64 k ∧ SetIn n (xs.take k) ∧ Below w.heap.size w wr) (fun i _ => xs.length - (intOf i).toNat)
  case atStart => exact ⟨0, Nat.zero_le _, rfl, by simpa using setIn_nil n, Below.refl _ _⟩
  case round =>
    obtain ⟨k, hk, rfl, hset, hbel⟩ := hrel
    by_cases hlt : k < xs.length
    · obtain ⟨b, o, rfl, hcs⟩ := (hatW wr hbel).cells (k := k) (by simpa using hlt)
      have hcell : wr.cell? ⟨b, o + k, none⟩ = some (.int .i64 xs[k]) := hcs k _ (by simp [hlt])
      have hcell' : 0 < k → ∃ y, y = xs[k - 1]'(by omega) ∧ wr.cell? ⟨b, o + (k - 1), none⟩ = some (.int .i64 y) := fun hk0 => ⟨_, rfl, hcs (k - 1) _ (by rw [List.getElem?_map, List.getElem?_eq_getElem (by omega)]; rfl)⟩
      have hstep := setIn_step (n := n) hlt
      clear hcs hatW hat
      have Hset := Lib.hid hset
      have Hstep := Lib.hid hstep
      clear hset hstep
      have e1 : IntKind.i64.wrap (n - 1) = n - 1 := IntWalk.i64_in _ (by omega)
      by_cases hin : 0 ≤ xs[k] ∧ xs[k] ≤ n - 1
      · have hin' := dec_true hin
        by_cases hk0 : 0 < k
        · obtain ⟨y, hy, hcy⟩ := hcell' hk0
          clear hcell'
          have Hy := Lib.hid hy
          clear hy
          have hkd : decide ((0 : Int) < (k : Int)) = true := by simpa using hk0
          have e2 : IntKind.i64.wrap ((k : Int) - 1) = (k : Int) - 1 := IntWalk.i64_in _ (by omega)
          have e3 : 0 ≤ (k : Int) - 1 := by omega
          have e4 : ((k : Int) - 1).toNat = k - 1 := by omega
          have e5 : (k : Int) - 1 < (xs.length : Int) := by omega
          by_cases hle : xs[k] ≤ y
          · have hled : decide (xs[k] ≤ y) = true := by simpa using hle
            go_wp2
            go_quiet ((go_at_call 116; exact Calls.quiet_of_same (flip (l1In_any _ _ _ _))))
            go_wp2
            go_ret
            exact ⟨ret_bool (false_dec fun h => by have h3 := (Hstep.out.1 (setIn_take h _)).2.2 hk0; have := Hy.out; omega), below_dN hbel _⟩
          · have hled : decide (xs[k] ≤ y) = false := by simpa using hle
            go_wp2
            go_quiet ((go_at_call 116; exact Calls.quiet_of_same (flip (l1In_any _ _ _ _))))
            go_wp2
            go_roundw
            case rel => exact ⟨k + 1, by omega, by go_num, Hstep.out.2 ⟨Hset.out, by omega, fun _ => by have := Hy.out; omega⟩, below_dN hbel _⟩
            case measure => simp [intOf]; omega
        · have hkd : decide ((0 : Int) < (k : Int)) = false := by simpa using hk0
          go_wp2
          go_quiet ((go_at_call 116; exact Calls.quiet_of_same (flip (l1In_any _ _ _ _))))
          go_wp2
          go_roundw
          case rel => exact ⟨k + 1, by omega, by go_num, Hstep.out.2 ⟨Hset.out, by omega, fun h => absurd h hk0⟩, below_dN hbel _⟩
          case measure => simp [intOf]; omega
      · have hin' := dec_false hin
        have Hin := Lib.hid hin
        clear hin
        go_wp2
        go_quiet ((go_at_call 116; exact Calls.quiet_of_same (flip (l1In_any _ _ _ _))))
        go_wp2
        go_ret
        exact ⟨ret_bool (false_dec fun h => by have h3 := (Hstep.out.1 (setIn_take h _)).2.1; have := Hin.out; omega), below_dN hbel _⟩
    · obtain rfl : k = xs.length := by omega
      go_wp2
      go_ret
      rw [List.take_length] at hset
      exact ⟨ret_bool (true_dec hset), hbel⟩

end Go.Proofs.YtiooindlpinjhaaDoor

/- Walks: the reference's GraphOk and the program's. -/
namespace Go.Proofs.YtiooindlpinjhaaDoor
open Go.RowKit

/-- A graph value: a struct of one slice of rows. -/
def Gr (w : World) (v : Value) (g : List (List Int)) : Prop := ∃ u, v = .agg #[u] ∧ Rws w 26 2 u g

theorem Gr.below {w w' : World} {v : Value} {g : List (List Int)} (h : Gr w v g) (hb : Below w.heap.size w w') : Gr w' v g := by
  obtain ⟨u, rfl, hr⟩ := h
  exact ⟨u, rfl, hr.below hb⟩

set_option maxHeartbeats 400000 in
theorem l1Size_any (v : Value) (g : List (List Int)) (w : World) (hg : Gr w v g) :
    Calls Tryd.prog 75 #[v] w fun e w' => e = .returned (.int .i64 g.length) ∧ Below w.heap.size w w' := by
  obtain ⟨u, rfl, hr⟩ := hg
  obtain ⟨p, c, rfl, _, _, hn⟩ := hr.shape
  have hb := below_alloc w (.cells #[.slice p g.length c] 28)
  go_enter Tryd.func75, Tryd.ntmps75
  go_wp2
  go_ret
  exact ⟨rfl, hb⟩

/-- Row j of a graph of n rows is right by itself. -/
def RowOk (g : List (List Int)) (j : Nat) : Prop := SetIn g.length (row g j) ∧ (j : Int) ∉ row g j
/-- The first i neighbours of k have k as a neighbour. -/
def BackTo (g : List (List Int)) (k i : Nat) : Prop := ∀ u ∈ (row g k).take i, (k : Int) ∈ row g u.toNat

theorem gOk_of {g : List (List Int)} (h1 : 1 ≤ g.length ∧ g.length ≤ 16) (h2 : ∀ j, j < g.length → RowOk g j) (h3 : ∀ k, k < g.length → BackTo g k (row g k).length) : GOk g :=
  ⟨h1.1, h1.2, h2, fun v hv u hu => h3 v hv u (by rwa [List.take_length])⟩
theorem rowOk_of {g : List (List Int)} (h : GOk g) {j : Nat} (hj : j < g.length) : RowOk g j := h.sets j hj
theorem backTo_of {g : List (List Int)} (h : GOk g) {k : Nat} (hk : k < g.length) (i : Nat) : BackTo g k i := fun u hu => h.both k hk u (List.mem_of_mem_take hu)
theorem backTo_step {g : List (List Int)} {k i : Nat} (hi : i < (row g k).length) (h : BackTo g k i) (h2 : (k : Int) ∈ row g ((row g k)[i]).toNat) : BackTo g k (i + 1) := by
  intro u hu
  rw [take_snoc' _ i hi] at hu
  rcases List.mem_append.1 hu with hu | hu
  · exact h u hu
  · simp at hu; subst hu; exact h2
theorem row_bound {g : List (List Int)} {k i : Nat} (h : RowOk g k) (hi : i < (row g k).length) : ∃ m : Nat, (row g k)[i] = (m : Int) ∧ m < g.length := by
  have := h.1.1 _ (List.getElem_mem hi)
  exact ⟨((row g k)[i]).toNat, by omega, by omega⟩

set_option maxRecDepth 100000 in
set_option maxHeartbeats 2000000 in
theorem specGraphOk_any (v : Value) (g : List (List Int)) (w : World) (hg : Gr w v g) :
    Calls Tryd.prog 45 #[v] w fun e w' => e = .returned (.bool (dec (GOk g))) ∧ Below w.heap.size w w' := by
  obtain ⟨u, rfl, hr⟩ := hg
  obtain ⟨p, c, rfl, _, _, hn⟩ := hr.shape
  obtain ⟨W1, hW1⟩ : ∃ W1, W1 = w.alloc (.cells #[.slice p g.length c] 28) := ⟨_, rfl⟩
  have hs1 : W1.heap.size = w.heap.size + 1 := by rw [hW1]; exact size_alloc _ _
  have hb1 : Below w.heap.size w W1 := by rw [hW1]; exact below_alloc _ _
  have hbox : W1.cell? ⟨w.heap.size, 0, none⟩ = some (.slice p g.length c) := by rw [hW1]; exact cell_new _ _ _
  have hr1 := hr.below hb1
  have HW1 := Lib.hid hW1
  have hs1' : w.heap.size < W1.heap.size := by omega
  clear hW1 hs1 hr
  by_cases hlen : 1 ≤ g.length ∧ g.length ≤ 16
  case neg =>
    have hd := dec_false (p := (1 : Int) ≤ (g.length : Int) ∧ (g.length : Int) ≤ 16) (by omega)
    have Hlen := Lib.hid hlen
    clear hlen
    go_enter Tryd.func45, Tryd.ntmps45
    go_wp2_with (first
      | (go_at_call 75; refine (l1Size_any _ g _ ⟨_, rfl, HW1.out ▸ hr1⟩).mono ?_; rintro e w2 ⟨rfl, hb2⟩)
      | (go_at_call 116; refine (l1In_any _ _ _ _).mono ?_; rintro e w3 ⟨rfl, rfl⟩))
    go_ret
    refine ⟨ret_bool (false_dec fun h => Hlen.out ⟨h.pos, h.le⟩), ?_⟩
    rw [← HW1.out] at hb2
    exact below_le hb1 hb2 (by omega)
  have hd := dec_true (p := (1 : Int) ≤ (g.length : Int) ∧ (g.length : Int) ≤ 16) (by omega)
  obtain ⟨hl1, hl2⟩ := hlen
  go_enter Tryd.func45, Tryd.ntmps45
  go_wp2_with (first
    | (go_at_call 75; refine (l1Size_any _ g _ ⟨_, rfl, HW1.out ▸ hr1⟩).mono ?_; rintro e w2 ⟨rfl, hb2⟩)
    | (go_at_call 116; refine (l1In_any _ _ _ _).mono ?_; rintro e w3 ⟨rfl, rfl⟩))
  have hb2' : Below W1.heap.size W1 w2 := by rw [← HW1.out] at hb2; exact hb2
  clear hb2
  go_loopw [4] (fun i wr => ∃ k : Nat, k ≤ g.length ∧ i = .int .i64 k ∧ (∀ j, j < k → RowOk g j) ∧ Below W1.heap.size W1 wr) (fun i _ => g.length - (intOf i).toNat)
  case atStart => exact ⟨0, Nat.zero_le _, rfl, fun j hj => by omega, hb2'⟩
  case round =>
    clear hb2'
    obtain ⟨k, hk, rfl, hrows, hbel⟩ := hrel
    have Hrows := Lib.hid hrows
    clear hrows
    have hboxr := hbel.at (by omega) hbox
    have hszr := hbel.size
    by_cases hlt : k < g.length
    · have hrr := hr1.below hbel
      obtain ⟨b, o, rp, rc, rfl, hcell, hnums⟩ := hrr.get hlt
      change wr.cell? _ = some (.slice rp (row g k).length rc) at hcell
      change Nums wr _ _ (.slice rp (row g k).length rc) (row g k) at hnums
      clear hrr
      by_cases hs : SetIn (g.length : Int) (row g k)
      · have hs' := dec_true hs
        by_cases hh : (k : Int) ∈ row g k
        · have hh' := dec_true hh
          have Hh := Lib.hid hh
          have Hs := Lib.hid hs
          clear hh hs
          go_wp2_with (first
            | (go_at_call 117; refine (l1Set_any _ _ _ (by omega) (by omega) _ hnums).mono ?_; rintro e w3 ⟨rfl, hb3⟩; have hboxr3 := hb3.at' hboxr; have hcell3 := hb3.at' hcell; have hnums3 := hnums.below hb3)
            | (go_at_call 72; refine (l1Has_any _ _ _ _ hnums3).mono ?_; rintro e w4 ⟨rfl, rfl⟩))
          go_ret
          exact ⟨ret_bool (false_dec fun h => (h.sets k hlt).2 Hh.out), (hb1.trans (hbel.mono (by omega))).trans (hb3.mono (by omega))⟩
        · have hh' := dec_false hh
          have Hok := Lib.hid (show RowOk g k from ⟨hs, hh⟩)
          clear hh hs
          go_wp2_with (first
            | (go_at_call 117; refine (l1Set_any _ _ _ (by omega) (by omega) _ hnums).mono ?_; rintro e w3 ⟨rfl, hb3⟩; have hboxr3 := hb3.at' hboxr; have hcell3 := hb3.at' hcell; have hnums3 := hnums.below hb3)
            | (go_at_call 72; refine (l1Has_any _ _ _ _ hnums3).mono ?_; rintro e w4 ⟨rfl, rfl⟩))
          go_roundw
          case rel =>
            refine ⟨k + 1, by omega, by go_num, fun j hj => ?_, hbel.trans (hb3.mono (by omega))⟩
            by_cases e : j = k
            · subst e; exact Hok.out
            · exact Hrows.out j (by omega)
          case measure => simp [intOf]; omega
      · have hs' := dec_false hs
        have Hs := Lib.hid hs
        clear hs
        go_wp2_with (go_at_call 117; refine (l1Set_any _ _ _ (by omega) (by omega) _ hnums).mono ?_; rintro e w3 ⟨rfl, hb3⟩)
        go_ret
        exact ⟨ret_bool (false_dec fun h => Hs.out (h.sets k hlt).1), (hb1.trans (hbel.mono (by omega))).trans (hb3.mono (by omega))⟩
    · obtain rfl : k = g.length := by omega
      go_wp2
      obtain ⟨wo, rfl⟩ : ∃ wo : World, wo = wr := ⟨_, rfl⟩
      go_loopw [5, 6] (fun i _ wr => ∃ k : Nat, k ≤ g.length ∧ i = .int .i64 k ∧ (∀ j, j < k → BackTo g j (row g j).length) ∧ Below W1.heap.size W1 wr) (fun i _ _ => g.length - (intOf i).toNat)
      case atStart => exact ⟨0, Nat.zero_le _, rfl, fun j hj => by omega, hbel⟩
      case round =>
        clear hboxr hszr hbel
        obtain ⟨k, hk, rfl, hback, hbel⟩ := hrel
        have Hback := Lib.hid hback
        clear hback
        have hszr := hbel.size
        by_cases hlt : k < g.length
        · go_wp2
          obtain ⟨wi, rfl⟩ : ∃ wi : World, wi = wr := ⟨_, rfl⟩
          go_loopw [6] (fun i wr => ∃ j : Nat, j ≤ (row g k).length ∧ i = .int .i64 j ∧ BackTo g k j ∧ Below W1.heap.size W1 wr) (fun i _ => (row g k).length - (intOf i).toNat)
          case atStart => exact ⟨0, Nat.zero_le _, rfl, fun u hu => by simp at hu, hbel⟩
          case round =>
            clear hbel hszr
            obtain ⟨i, hi, rfl, hbk, hbel⟩ := hrel
            have Hbk := Lib.hid hbk
            clear hbk
            have hboxr := hbel.at (by omega) hbox
            have hszr := hbel.size
            have hrr := hr1.below hbel
            obtain ⟨b, o, rp, rc, rfl, hcell, hnums⟩ := hrr.get hlt
            change wr.cell? _ = some (.slice rp (row g k).length rc) at hcell
            change Nums wr _ _ (.slice rp (row g k).length rc) (row g k) at hnums
            by_cases hlti : i < (row g k).length
            · obtain ⟨m, hm, hmn⟩ := row_bound (Hrows.out k hlt) hlti
              obtain ⟨_, _, hv, _, _, _, hat⟩ := hnums
              simp only [Value.slice.injEq, true_and] at hv
              obtain ⟨rfl, rfl⟩ := hv
              obtain ⟨b2, o2, rfl, hcell2⟩ := hat.num hlti
              rw [hm] at hcell2
              obtain ⟨b', o', rp', rc', he, hcell3, hnums3⟩ := hrr.get hmn
              simp only [Option.some.injEq, Addr.mk.injEq, and_true] at he
              obtain ⟨rfl, rfl⟩ := he
              change wr.cell? _ = some (.slice rp' (row g m).length rc') at hcell3
              change Nums wr _ _ (.slice rp' (row g m).length rc') (row g m) at hnums3
              clear hat hrr
              have Hm := Lib.hid hm
              clear hm
              by_cases hh : (k : Int) ∈ row g m
              · have hh' := dec_true hh
                have Hh := Lib.hid hh
                clear hh
                go_wp2
                go_quiet ((go_at_call 72; exact Calls.quiet_of_same (flip (l1Has_any _ _ _ _ (hnums3.below (below_dN (Below.refl _ _) _))))))
                go_wp2
                go_roundw
                case rel =>
                  refine ⟨i + 1, by omega, by go_num, backTo_step hlti Hbk.out ?_, below_dN hbel _⟩
                  rw [Hm.out, Int.toNat_natCast]; exact Hh.out
                case measure => simp [intOf]; omega
              · have hh' := dec_false hh
                have Hh := Lib.hid hh
                clear hh
                go_wp2
                go_quiet ((go_at_call 72; exact Calls.quiet_of_same (flip (l1Has_any _ _ _ _ (hnums3.below (below_dN (Below.refl _ _) _))))))
                go_wp2
                go_ret
                refine ⟨ret_bool (false_dec fun h => Hh.out ?_), hb1.trans ((below_dN hbel _).mono (by omega))⟩
                have := h.both k hlt _ (List.getElem_mem hlti)
                rwa [Hm.out, Int.toNat_natCast] at this
            · obtain rfl : i = (row g k).length := by omega
              go_wp2
              go_roundw
              case rel =>
                refine ⟨k + 1, by omega, by go_num, fun j hj => ?_, hbel⟩
                by_cases e : j = k
                · subst e; exact Hbk.out
                · exact Hback.out j (by omega)
              case measure => simp [intOf]; omega
        · obtain rfl : k = g.length := by omega
          go_wp2
          go_ret
          exact ⟨ret_bool (true_dec (gOk_of ⟨hl1, hl2⟩ Hrows.out Hback.out)), hb1.trans (hbel.mono (by omega))⟩

end Go.Proofs.YtiooindlpinjhaaDoor
