/- What a law's bytes read as. -/
import Derived.Test.YtjdlmjmhlbpooaaDoorEgQ6
import Derived.Test.YtjdlmjmhlbpooaaDoorEgQ4
import Derived.Test.YtjdlmjmhlbpooaaDoorEgQ5
namespace Go.Proofs.YtjdlmjmhlbpooaaDoor
open Go.RowKit

def ArgB (w : World) (v : Value) (bs : List Int) : Prop := ∃ p c, v = .slice p bs.length c ∧ bs.length ≤ 9223372036854775807 ∧ (∀ x ∈ bs, 0 ≤ x ∧ x ≤ 255) ∧ Cl w p (bs.map (Value.int .u8))
theorem ArgB.below {w w' : World} {v : Value} {bs : List Int} (h : ArgB w v bs) (hb : Below w.heap.size w w') : ArgB w' v bs := by
  obtain ⟨p, c, h1, h2, h3, h4⟩ := h
  exact ⟨p, c, h1, h2, h3, h4.below hb⟩
theorem ArgB.get {w : World} {p : Option Addr} {n c : Nat} {bs : List Int} (h : ArgB w (.slice p n c) bs) {k : Nat} (hk : k < bs.length) :
    ∃ b o, p = some ⟨b, o, none⟩ ∧ w.cell? ⟨b, o + k, none⟩ = some (.int .u8 bs[k]) ∧ 0 ≤ bs[k] ∧ bs[k] ≤ 255 := by
  obtain ⟨p', c', e, _, h3, h4⟩ := h
  cases e
  rcases h4 with h4 | ⟨b, o, rfl, h5⟩
  · rw [List.map_eq_nil_iff] at h4
    subst h4
    simp at hk
  · refine ⟨b, o, rfl, h5 k _ (by simp [hk]), h3 _ (List.getElem_mem hk)⟩

end Go.Proofs.YtjdlmjmhlbpooaaDoor

/- Plain facts, with no program in sight: the reference's list operations. -/
namespace Go.Proofs.YtjdlmjmhlbpooaaDoor

/-- A list without a number. -/
def lessL (s : List Int) (v : Int) : List Int := s.filter (fun x => x != v)
/-- A rising list with one more. -/
def intoL : List Int → Int → List Int
  | [], n => [n]
  | x :: xs, n => if x < n then x :: intoL xs n else if x = n then x :: xs else n :: x :: xs
/-- 0, 1, .., n - 1. -/
def allL (n : Nat) : List Int := (List.range n).map (fun (i : Nat) => (i : Int))

theorem allL_length (n : Nat) : (allL n).length = n := by simp [allL]
theorem allL_succ (n : Nat) : allL (n + 1) = allL n ++ [(n : Int)] := by simp [allL, List.range_succ]
theorem mem_allL {n : Nat} {x : Int} : x ∈ allL n ↔ 0 ≤ x ∧ x < n := by
  simp only [allL, List.mem_map, List.mem_range]
  constructor
  · rintro ⟨i, hi, rfl⟩; omega
  · rintro ⟨h1, h2⟩; exact ⟨x.toNat, by omega, by omega⟩
theorem allL_rising (n : Nat) : (allL n).Pairwise (· < ·) := by
  unfold allL
  rw [List.pairwise_map]
  exact List.Pairwise.imp (fun h => by omega) List.pairwise_lt_range

theorem mem_lessL {s : List Int} {v x : Int} : x ∈ lessL s v ↔ x ∈ s ∧ x ≠ v := by simp [lessL]
theorem lessL_length (s : List Int) (v : Int) : (lessL s v).length ≤ s.length := List.length_filter_le _ _
theorem lessL_snoc (s : List Int) (v x : Int) : lessL (s ++ [x]) v = if x = v then lessL s v else lessL s v ++ [x] := by
  by_cases h : x = v
  · simp [lessL, h, List.filter_append]
  · simp [lessL, h, List.filter_append]
theorem lessL_rising {s : List Int} (h : s.Pairwise (· < ·)) (v : Int) : (lessL s v).Pairwise (· < ·) := h.filter _

theorem intoL_cut : ∀ (l : List Int) (n : Int) (k : Nat), k ≤ l.length → (∀ j (hj : j < l.length), j < k → l[j] < n) → (∀ h : k < l.length, ¬ l[k] < n) →
    intoL l n = if ∃ h : k < l.length, l[k] = n then l else l.take k ++ n :: l.drop k
  | [], n, k, hk, _, _ => by
    obtain rfl : k = 0 := by simpa using hk
    simp [intoL]
  | x :: xs, n, 0, hk, _, h2 => by
    have h3 : ¬ x < n := h2 (by simp)
    unfold intoL
    rw [if_neg h3]
    by_cases e : x = n
    · simp [e]
    · simp [e]
  | x :: xs, n, k + 1, hk, h1, h2 => by
    have h3 : x < n := h1 0 (by simp) (by omega)
    unfold intoL
    rw [if_pos h3, intoL_cut xs n k (by simpa using hk) (fun j hj hjk => h1 (j + 1) (by simpa using hj) (by omega)) (fun h => h2 (by simpa using h))]
    by_cases e : ∃ h : k < xs.length, xs[k] = n
    · rw [if_pos e, if_pos (by obtain ⟨a, b⟩ := e; exact ⟨by simpa using a, by simpa using b⟩)]
    · rw [if_neg e, if_neg (by rintro ⟨a, b⟩; exact e ⟨by simpa using a, by simpa using b⟩)]
      simp

theorem intoL_eq {l : List Int} {n : Int} {k : Nat} (hk : k < l.length) (h1 : ∀ j (hj : j < l.length), j < k → l[j] < n) (h2 : ¬ l[k] < n) (h3 : l[k] = n) : intoL l n = l := by
  rw [intoL_cut l n k (by omega) h1 (fun _ => h2), if_pos ⟨hk, h3⟩]
theorem intoL_new {l : List Int} {n : Int} {k : Nat} (hk : k ≤ l.length) (h1 : ∀ j (hj : j < l.length), j < k → l[j] < n) (h2 : ∀ h : k < l.length, ¬ l[k] < n) (h3 : ∀ h : k < l.length, l[k] ≠ n) : intoL l n = l.take k ++ n :: l.drop k := by
  rw [intoL_cut l n k hk h1 h2, if_neg (by rintro ⟨a, b⟩; exact h3 a b)]

theorem mem_intoL {n x : Int} : ∀ {l : List Int}, x ∈ intoL l n ↔ x ∈ l ∨ x = n
  | [] => by simp [intoL]
  | y :: l => by
    unfold intoL
    split
    · simp only [List.mem_cons, mem_intoL (l := l)]; exact ⟨fun h => by rcases h with h | h | h <;> simp [h], fun h => by rcases h with (h | h) | h <;> simp [h]⟩
    · split
      · rename_i h; subst h; simp only [List.mem_cons]; exact ⟨fun h => .inl h, fun h => by rcases h with h | h; exact h; exact .inl h⟩
      · simp only [List.mem_cons]; exact ⟨fun h => by rcases h with h | h | h <;> simp [h], fun h => by rcases h with (h | h) | h <;> simp [h]⟩

theorem intoL_rising {n : Int} : ∀ {l : List Int}, l.Pairwise (· < ·) → (intoL l n).Pairwise (· < ·)
  | [], _ => by simp [intoL]
  | y :: l, h => by
    rw [List.pairwise_cons] at h
    unfold intoL
    split
    · rename_i hy
      rw [List.pairwise_cons]
      refine ⟨fun z hz => ?_, intoL_rising h.2⟩
      rcases mem_intoL.1 hz with hz | rfl
      · exact h.1 z hz
      · exact hy
    · split
      · rw [List.pairwise_cons]; exact h
      · rw [List.pairwise_cons, List.pairwise_cons]
        refine ⟨fun z hz => ?_, h⟩
        rcases List.mem_cons.1 hz with rfl | hz
        · omega
        · have := h.1 z hz; omega

theorem intoL_length (l : List Int) (n : Int) : (intoL l n).length ≤ l.length + 1 := by
  induction l with
  | nil => simp [intoL]
  | cons x l ih =>
    unfold intoL
    split
    · simp; omega
    · split <;> simp

end Go.Proofs.YtjdlmjmhlbpooaaDoor

/- Walks: the reference's list operations that make memory. -/
namespace Go.Proofs.YtjdlmjmhlbpooaaDoor
open Go.RowKit

set_option maxRecDepth 100000 in
set_option maxHeartbeats 1000000 in
theorem l1Copy_any (v : Value) (n : Nat) (vals : List Value) (h1 : ∀ x ∈ vals, x.oneCell' = true) (hl : vals.length = n) (w : World) (hx : Sl w 2 v n vals) :
    Calls Tryd.prog 153 #[v] w fun e w' => ∃ u, e = .returned u ∧ w'.ownsRow w.heap.size 2 1 u n vals ∧ Below w.heap.size w w' := by
  have hn := hx
  obtain ⟨p, c, rfl, _, _, hn, _⟩ := hn
  have hx' := hx.below (below_alloc w (.cells #[] 2))
  have ho := ownsRow_empty w 2 1
  have hb := below_alloc w (.cells #[] 2)
  have hsz : w.heap.size ≤ (w.alloc (.cells #[] 2)).heap.size := hb.size
  have Hl := Lib.hid hl
  clear hl
  go_enter Tryd.func153, Tryd.ntmps153
  go_wp2_with (at_builtin; refine wpList_app ty_i64 rfl rfl rfl ho rfl hx' (by have := Hl.out; omega) h1 (by omega) hsz ?_; intro v' w1 hown' hg _)
  go_ret
  refine ⟨_, rfl, by simpa using hown', below_grown hb ho hg (Nat.le_refl _) hsz⟩

theorem oneCell_ints (K : IntKind) (xs : List Int) : ∀ x ∈ xs.map (Value.int K), x.oneCell' = true := by
  intro x hx
  obtain ⟨y, _, rfl⟩ := List.mem_map.1 hx
  rfl



end Go.Proofs.YtjdlmjmhlbpooaaDoor

/- Walk: the reference's list with one more. -/
namespace Go.Proofs.YtjdlmjmhlbpooaaDoor
open Go.RowKit

set_option maxRecDepth 100000 in
set_option maxHeartbeats 1000000 in
theorem l1Into_any (v : Value) (xs : List Int) (n : Int) (hl : xs.length ≤ 100000000) (w : World) (hx : Nums w 2 .i64 v xs) :
    Calls Tryd.prog 134 #[v, .int .i64 n] w fun e w' => ∃ u, e = .returned u ∧ Nums w' 2 .i64 u (intoL xs n) ∧ Below w.heap.size w w' := by
  have hx0 := Lib.hid hx
  obtain ⟨p, c, rfl, hp, hnc, hn, hat⟩ := hx
  go_enter Tryd.func134, Tryd.ntmps134
  go_wp2
  go_loop [5] (fun i => ∃ k : Nat, k ≤ xs.length ∧ i = .int .i64 k ∧ ∀ j (hj : j < xs.length), j < k → xs[j] < n) (fun i => xs.length - (intOf i).toNat)
  case atStart => exact ⟨0, Nat.zero_le _, rfl, fun j hj h => by omega⟩
  case round =>
    obtain ⟨k, hk, rfl, hlow⟩ := hrel
    have Hlow := Lib.hid hlow
    clear hlow
    by_cases hlt : k < xs.length
    · obtain ⟨b, o, rfl, hcell⟩ := hat.num hlt
      by_cases h1 : xs[k] < n
      · go_wp2
        go_round
        case rel =>
          refine ⟨k + 1, by omega, by go_num, fun j hj h => ?_⟩
          by_cases e : j = k
          · subst e; exact h1
          · exact Hlow.out j hj (by omega)
        case measure => simp [intOf]; omega
      · by_cases h2 : xs[k] = n
        · have h2' : (xs[k] == n) = true := by simpa using h2
          have H := Lib.hid (intoL_eq hlt Hlow.out h1 h2)
          clear h2
          go_wp2
          go_ret
          exact ⟨_, rfl, by rw [H.out]; exact hx0.out, Below.refl _ _⟩
        · have h2' : (xs[k] == n) = false := by simpa using h2
          have H := Lib.hid (intoL_new hk Hlow.out (fun _ => h1) (fun _ => h2))
          clear h2
          have hsl : Sl w 2 (.slice (some ⟨b, o, none⟩) k c) k ((xs.take k).map (Value.int .i64)) :=
            ⟨_, _, rfl, (fun e => by cases e), by omega, by omega, by rw [List.map_take]; exact hat.take k⟩
          have hkc : k < c := by omega
          have hd : Sl w 2 (.slice (some ⟨b, o + k, none⟩) (xs.length - k) (c - k)) (xs.length - k) ((xs.drop k).map (Value.int .i64)) :=
            ⟨_, _, rfl, (fun e => by cases e), by omega, by omega, by rw [List.map_drop]; exact hat.drop k⟩
          go_wp2_with (first
            | (go_at_call 153; refine (l1Copy_any _ k _ (oneCell_ints _ _) (by simp; omega) _ hsl).mono ?_; rintro e w1 ⟨u1, rfl, hown1, hb1⟩)
            | (at_builtin; refine wpList_app1 ty_i64 rfl rfl rfl hown1 rfl rfl (by omega) hb1.size ?_; intro v2 w2 hown2 hg2 _; have hb2 := below_grown hb1 hown1 hg2 (Nat.le_refl _) hb1.size; have hd2 : Sl w2 2 (.slice (some ⟨b, o + k, none⟩) (xs.length - k) (c - k)) (xs.length - k) ((xs.drop k).map (Value.int .i64)) := hd.below hb2)
            | (at_builtin; refine wpList_app ty_i64 rfl rfl rfl hown2 rfl hd2 (by simp) (oneCell_ints _ _) (by omega) hb2.size ?_; intro v3 w3 hown3 hg3 _))
          go_ret
          refine ⟨_, rfl, ?_, below_grown hb2 hown2 hg3 (Nat.le_refl _) hb2.size⟩
          have e : (xs.take k).map (Value.int .i64) ++ [Value.int .i64 n] ++ (xs.drop k).map (Value.int .i64) = (intoL xs n).map (Value.int .i64) := by rw [H.out]; simp
          rw [e] at hown3
          have hlen : k + 1 + (xs.length - k) = (intoL xs n).length := by rw [H.out]; simp; omega
          exact Nums.of_owns hown3 hlen (by omega)
    · obtain rfl : k = xs.length := by omega
      have H := Lib.hid (intoL_new hk Hlow.out (fun h => absurd h hlt) (fun h => absurd h hlt))
      have hsl : Sl w 2 (.slice p xs.length c) xs.length (xs.map (Value.int .i64)) := hx0.out
      have hfin : ∀ (w2 : World) (u : Value), w2.ownsRow w.heap.size 2 1 u (xs.length + 1 + 0) (xs.map (Value.int .i64) ++ [Value.int .i64 n] ++ []) → Nums w2 2 .i64 u (intoL xs n) := by
        intro w2 u ho
        have e : xs.map (Value.int .i64) ++ [Value.int .i64 n] ++ [] = (intoL xs n).map (Value.int .i64) := by rw [H.out]; simp
        rw [e] at ho
        exact Nums.of_owns ho (by rw [H.out]; simp) (by omega)
      rcases p with _ | a
      · obtain ⟨h0, rfl⟩ := hp rfl
        have h0' : xs = [] := List.eq_nil_of_length_eq_zero h0
        subst h0'
        go_wp2_with (first
          | (go_at_call 153; refine (l1Copy_any _ 0 _ (oneCell_ints _ _) rfl _ hsl).mono ?_; rintro e w1 ⟨u1, rfl, hown1, hb1⟩)
          | (at_builtin; refine wpList_app1 ty_i64 rfl rfl rfl hown1 rfl rfl (by omega) hb1.size ?_; intro v2 w2 hown2 hg2 _; have hb2 := below_grown hb1 hown1 hg2 (Nat.le_refl _) hb1.size)
          | (at_builtin; refine wpList_app ty_i64 rfl rfl rfl hown2 rfl (Sl.nothing _ _ _ _ (fun _ => rfl)) rfl (fun x hx => by cases hx) (by omega) hb2.size ?_; intro v3 w3 hown3 hg3 _))
        go_ret
        exact ⟨_, rfl, hfin _ _ hown3, below_grown hb2 hown2 hg3 (Nat.le_refl _) hb2.size⟩
      · by_cases hcl : c = xs.length
        · subst hcl
          go_wp2_with (first
            | (go_at_call 153; refine (l1Copy_any _ xs.length _ (oneCell_ints _ _) (by simp) _ hsl).mono ?_; rintro e w1 ⟨u1, rfl, hown1, hb1⟩)
            | (at_builtin; refine wpList_app1 ty_i64 rfl rfl rfl hown1 rfl rfl (by omega) hb1.size ?_; intro v2 w2 hown2 hg2 _; have hb2 := below_grown hb1 hown1 hg2 (Nat.le_refl _) hb1.size)
            | (at_builtin; refine wpList_app ty_i64 rfl rfl rfl hown2 rfl (Sl.nothing _ _ _ _ (fun e => by cases e)) rfl (fun x hx => by cases hx) (by omega) hb2.size ?_; intro v3 w3 hown3 hg3 _))
          go_ret
          exact ⟨_, rfl, hfin _ _ hown3, below_grown hb2 hown2 hg3 (Nat.le_refl _) hb2.size⟩
        · have hcl' : xs.length < c := by omega
          go_wp2_with (first
            | (go_at_call 153; refine (l1Copy_any _ xs.length _ (oneCell_ints _ _) (by simp) _ hsl).mono ?_; rintro e w1 ⟨u1, rfl, hown1, hb1⟩)
            | (at_builtin; refine wpList_app1 ty_i64 rfl rfl rfl hown1 rfl rfl (by omega) hb1.size ?_; intro v2 w2 hown2 hg2 _; have hb2 := below_grown hb1 hown1 hg2 (Nat.le_refl _) hb1.size)
            | (at_builtin; refine wpList_app ty_i64 rfl rfl rfl hown2 rfl (Sl.nothing _ _ _ _ (fun e => by cases e)) rfl (fun x hx => by cases hx) (by omega) hb2.size ?_; intro v3 w3 hown3 hg3 _))
          go_ret
          exact ⟨_, rfl, hfin _ _ hown3, below_grown hb2 hown2 hg3 (Nat.le_refl _) hb2.size⟩

end Go.Proofs.YtjdlmjmhlbpooaaDoor
