/- Walks: the laws' own tests of lists: has, alike, all alike; a rising list with one more. -/
import Derived.Test.YtjdlmjmhlbpooaaDoorEgQ7
namespace Go.Proofs.YtjdlmjmhlbpooaaDoor
open Go.RowKit

set_option maxRecDepth 100000 in
set_option maxHeartbeats 400000 in
theorem w9Has_any (v : Value) (xs : List Int) (n : Int) (w : World) (hx : Nums w 2 .i64 v xs) :
    Calls Tryd.prog 44 #[v, .int .i64 n] w fun e w' => e = .returned (.bool (dec (n ∈ xs))) ∧ w = w' := by
  obtain ⟨p, c, rfl, _, _, hn, hat⟩ := hx
  go_enter Tryd.func44, Tryd.ntmps44
  go_wp2
  go_loop [5] (fun i => ∃ k : Nat, k ≤ xs.length ∧ i = .int .i64 k ∧ n ∉ xs.take k) (fun i => xs.length - (intOf i).toNat)
  case atStart => exact ⟨0, Nat.zero_le _, rfl, by simp⟩
  case round =>
    obtain ⟨k, hk, rfl, hnk⟩ := hrel
    by_cases hlt : k < xs.length
    · obtain ⟨b, o, rfl, hcell⟩ := hat.num hlt
      clear hat
      by_cases he : xs[k] = n
      · have he' : (xs[k] == n) = true := by simpa using he
        have H := Lib.hid he
        clear he
        go_wp2
        go_ret
        exact ⟨ret_bool (true_dec (mem_of_getElem hlt H.out)), rfl⟩
      · have he' : (xs[k] == n) = false := by simpa using he
        go_wp2
        go_round
        case rel => exact ⟨k + 1, by omega, by go_num, not_mem_take_succ hlt hnk he⟩
        case measure => simp [intOf]; omega
    · obtain rfl : k = xs.length := by omega
      go_wp2
      go_ret
      rw [List.take_length] at hnk
      exact ⟨ret_bool (false_dec hnk), rfl⟩

set_option maxRecDepth 100000 in
set_option maxHeartbeats 1000000 in
theorem likeQ_any (u v : Value) (xs ys : List Int) (w : World) (hx : Nums w 2 .i64 u xs) (hy : Nums w 2 .i64 v ys) :
    Calls Tryd.prog 84 #[u, v] w fun e w' => e = .returned (.bool (dec (xs = ys))) ∧ ∃ q, w' = w.drewN q := by
  obtain ⟨p, c, rfl, hp, _, hn, hat⟩ := hx
  obtain ⟨p', c', rfl, hp', _, hn', hat'⟩ := hy
  by_cases hl : xs.length = ys.length
  case neg =>
    have hl' : ((xs.length : Int) != (ys.length : Int)) = true := by simp; omega
    go_enter Tryd.func84, Tryd.ntmps84
    go_wp2
    go_ret
    exact ⟨ret_bool (false_dec fun h => hl (by rw [h])), 0, rfl⟩
  have Hl := Lib.hid hl
  have hl' : ((xs.length : Int) != (ys.length : Int)) = false := by simp; omega
  clear hl
  go_enter Tryd.func84, Tryd.ntmps84
  go_wp2
  go_loopw [5] (fun i wr => ∃ k : Nat, k ≤ xs.length ∧ i = .int .i64 k ∧ xs.take k = ys.take k ∧ ∃ q, wr = w.drewN q) (fun i _ => xs.length - (intOf i).toNat)
  case atStart => exact ⟨0, Nat.zero_le _, rfl, by simp, 0, rfl⟩
  case round =>
    obtain ⟨k, hk, rfl, heq, q, rfl⟩ := hrel
    have Heq := Lib.hid heq
    clear heq
    by_cases hlt : k < xs.length
    · have hlt' : k < ys.length := by have := Hl.out; omega
      obtain ⟨b, o, rfl, hcell⟩ := hat.num hlt
      obtain ⟨b', o', rfl, hcell'⟩ := hat'.num hlt'
      clear hat hat'
      have e0 : (0 : Int) ≤ (k : Int) := by omega
      have e1 : (k : Int) < (xs.length : Int) := by omega
      have e2 : (k : Int) < (ys.length : Int) := by omega
      by_cases he : xs[k] = ys[k]
      · have he' : (xs[k] != ys[k]) = false := by simpa using he
        have He := Lib.hid he
        clear he
        go_wp2
        go_quiet (fail)
        go_wp2
        go_roundw
        case rel => exact ⟨k + 1, by omega, by go_num, by rw [take_snoc xs k hlt, take_snoc ys k hlt', Heq.out, He.out], _, rfl⟩
        case measure => simp [intOf]; omega
      · have he' : (xs[k] != ys[k]) = true := by simpa using he
        have He := Lib.hid he
        clear he
        go_wp2
        go_quiet (fail)
        go_wp2
        go_ret
        exact ⟨ret_bool (false_dec fun h => He.out (by subst h; rfl)), _, World.drewN_drewN _ _ _⟩
    · obtain rfl : k = xs.length := by omega
      go_wp2
      go_ret
      refine ⟨ret_bool (true_dec ?_), q, rfl⟩
      have h := Heq.out
      rwa [List.take_length, Hl.out, List.take_length] at h

theorem likeInts_any (u v : Value) (xs ys : List Int) (w : World) (hx : Nums w 2 .i64 u xs) (hy : Nums w 2 .i64 v ys) :
    Calls Tryd.prog 84 #[u, v] w fun e w' => e = .returned (.bool (dec (xs = ys))) ∧ Below w.heap.size w w' :=
  (likeQ_any u v xs ys w hx hy).mono fun _ _ ⟨h1, q, h2⟩ => ⟨h1, h2 ▸ below_dN (Below.refl _ _) q⟩

theorem intoL_app {v x : Int} : ∀ {l : List Int}, (∃ y ∈ l, ¬ y < v) → intoL (l ++ [x]) v = intoL l v ++ [x]
  | [], h => by obtain ⟨y, hy, _⟩ := h; simp at hy
  | a :: l, h => by
    rw [List.cons_append]
    unfold intoL
    by_cases h1 : a < v
    · rw [if_pos h1, if_pos h1, intoL_app (l := l) (by
        obtain ⟨y, hy, h2⟩ := h
        rcases List.mem_cons.1 hy with rfl | hy
        · exact absurd h1 h2
        · exact ⟨y, hy, h2⟩)]
      rfl
    · rw [if_neg h1, if_neg h1]
      split <;> rfl
theorem intoL_low {v : Int} : ∀ {l : List Int}, (∀ y ∈ l, y < v) → intoL l v = l ++ [v]
  | [], _ => rfl
  | a :: l, h => by
    unfold intoL
    rw [if_pos (h a (List.mem_cons_self ..)), intoL_low fun y hy => h y (List.mem_cons_of_mem _ hy)]
    rfl
theorem intoL_at {v : Int} : ∀ {l : List Int}, (∀ y ∈ l, y < v) → intoL (l ++ [v]) v = l ++ [v]
  | [], _ => by simp [intoL]
  | a :: l, h => by
    rw [List.cons_append]
    unfold intoL
    rw [if_pos (h a (List.mem_cons_self ..)), intoL_at fun y hy => h y (List.mem_cons_of_mem _ hy)]
theorem intoL_up {v x : Int} (hx : v < x) : ∀ {l : List Int}, (∀ y ∈ l, y < v) → intoL (l ++ [x]) v = l ++ [v] ++ [x]
  | [], _ => by
    have h1 : ¬ x < v := by omega
    have h2 : ¬ x = v := by omega
    simp [intoL, h1, h2]
  | a :: l, h => by
    rw [List.cons_append]
    unfold intoL
    rw [if_pos (h a (List.mem_cons_self ..)), intoL_up hx fun y hy => h y (List.mem_cons_of_mem _ hy)]
    rfl

end Go.Proofs.YtjdlmjmhlbpooaaDoor
