/- Plain: what can be reached in a set; the parts of a set. -/
import Derived.Test.YtfokiijcpkhllaaDoorDsQ7
import Derived.Test.YtfokiijcpkhllaaDoorDsQ6
import Derived.Test.YtfokiijcpkhllaaDoorDsQ4
import Derived.Test.YtfokiijcpkhllaaDoorDsQ1
namespace Go.Proofs.YtfokiijcpkhllaaDoor

/-- Reached from u along E in S. -/
inductive Rch (E : Nat → Nat → Bool) (S : Nat → Prop) (u : Nat) : Nat → Prop
  | base : Rch E S u u
  | step {x y : Nat} : Rch E S u x → E x y = true → S y → Rch E S u y
theorem rch_closed {E : Nat → Nat → Bool} {S : Nat → Prop} {u : Nat} {T : Nat → Prop} (h0 : T u) (hcl : ∀ x y, T x → E x y = true → S y → T y) : ∀ x, Rch E S u x → T x := by
  intro x h
  induction h with
  | base => exact h0
  | step _ h2 h3 ih => exact hcl _ _ ih h2 h3
theorem rch_in {E : Nat → Nat → Bool} {S : Nat → Prop} {u : Nat} (hu : S u) : ∀ x, Rch E S u x → S x := rch_closed hu fun _ _ _ _ h => h
theorem rch_trans {E : Nat → Nat → Bool} {S : Nat → Prop} {u x y : Nat} (h : Rch E S u x) (k : Rch E S x y) : Rch E S u y := by
  induction k with
  | base => exact h
  | step _ h2 h3 ih => exact .step ih h2 h3
theorem rch_sym {E : Nat → Nat → Bool} (hE : ∀ r j, E r j = true → E j r = true) {S : Nat → Prop} {u x : Nat} (hu : S u) (h : Rch E S u x) : Rch E S x u := by
  induction h with
  | base => exact .base
  | step h1 h2 h3 ih => exact rch_trans (.step .base (hE _ _ h2) (rch_in hu _ h1)) ih
theorem rch_mono {E : Nat → Nat → Bool} {S S' : Nat → Prop} {u : Nat} (h : ∀ x, S x → S' x) : ∀ x, Rch E S u x → Rch E S' u x := by
  intro x hx
  induction hx with
  | base => exact .base
  | step _ h2 h3 ih => exact .step ih h2 (h _ h3)
/-- Away from closed parts the same is reached. -/
theorem rch_away {E : Nat → Nat → Bool} (hE : ∀ r j, E r j = true → E j r = true) {S D : Nat → Prop} (hD : ∀ x y, D x → E x y = true → S y → D y) {u : Nat} (hu : S u) (hnu : ¬ D u) :
    ∀ x, Rch E S u x ↔ Rch E (fun y => S y ∧ ¬ D y) u x := by
  intro x
  constructor
  · intro h
    induction h with
    | base => exact .base
    | @step x y h1 h2 h3 ih =>
      refine .step ih h2 ⟨h3, fun hd => ?_⟩
      have hx := rch_in (S := fun y => S y ∧ ¬ D y) ⟨hu, hnu⟩ _ ih
      exact hx.2 (hD _ _ hd (hE _ _ h2) hx.1)
  · exact rch_mono (fun _ h => h.1) x

/-- The part of a vertex, as a list out of L. -/
noncomputable def partL (E : Nat → Nat → Bool) (L : List Nat) (u : Nat) : List Nat := L.filter fun x => dec (Rch E (· ∈ L) u x)
theorem mem_partL {E : Nat → Nat → Bool} {L : List Nat} {u x : Nat} : x ∈ partL E L u ↔ x ∈ L ∧ Rch E (· ∈ L) u x := by
  simp [partL, dec_iff]
theorem partL_rising {E : Nat → Nat → Bool} {L : List Nat} (h : L.Pairwise (· < ·)) (u : Nat) : (partL E L u).Pairwise (· < ·) := List.Pairwise.filter _ h
theorem partL_length (E : Nat → Nat → Bool) (L : List Nat) (u : Nat) : (partL E L u).length ≤ L.length := List.length_filter_le _ _
noncomputable def restL (E : Nat → Nat → Bool) (L : List Nat) (u : Nat) : List Nat := L.filter fun x => !dec (Rch E (· ∈ L) u x)
theorem mem_restL {E : Nat → Nat → Bool} {L : List Nat} {u x : Nat} : x ∈ restL E L u ↔ x ∈ L ∧ ¬ Rch E (· ∈ L) u x := by
  simp only [restL, List.mem_filter, Bool.not_eq_true', and_congr_right_iff]
  intro _
  by_cases h : Rch E (· ∈ L) u x
  · simp [dec_true h, h]
  · simp [dec_false h, h]
theorem restL_rising {E : Nat → Nat → Bool} {L : List Nat} (h : L.Pairwise (· < ·)) (u : Nat) : (restL E L u).Pairwise (· < ·) := List.Pairwise.filter _ h
theorem restL_lt {E : Nat → Nat → Bool} {L : List Nat} {u : Nat} (hu : u ∈ L) : (restL E L u).length < L.length := by
  rcases Nat.lt_or_ge (restL E L u).length L.length with h | h
  · exact h
  · exfalso
    have e : restL E L u = L := List.filter_eq_self.2 (fun x hx => by
      have h2 : (restL E L u).length = L.length := Nat.le_antisymm (List.length_filter_le _ _) h
      exact List.length_filter_eq_length_iff.1 h2 x hx)
    have : u ∈ restL E L u := by rw [e]; exact hu
    exact (mem_restL.1 this).2 .base

/-- The parts of a rising list, by their least ones. -/
inductive Parts (E : Nat → Nat → Bool) : List Nat → List (List Nat) → Prop
  | done : Parts E [] []
  | step (u : Nat) (L : List Nat) (ps : List (List Nat)) : Parts E (restL E (u :: L) u) ps → Parts E (u :: L) (partL E (u :: L) u :: ps)
theorem parts_det {E : Nat → Nat → Bool} {L : List Nat} {ps : List (List Nat)} (h : Parts E L ps) : ∀ {qs : List (List Nat)}, Parts E L qs → ps = qs := by
  induction h with
  | done => intro qs h2; cases h2; rfl
  | step u L ps _ ih =>
    intro qs h2
    cases h2 with
    | step _ _ qs h3 => rw [ih h3]

def PartOn (E : Nat → Nat → Bool) (L0 : List Nat) (os : List (List Nat)) (L : List Nat) : Prop := ∀ ps, Parts E L ps → Parts E L0 (os ++ ps)
theorem partOn_start (E : Nat → Nat → Bool) (L : List Nat) : PartOn E L [] L := fun _ h => h
theorem partOn_step {E : Nat → Nat → Bool} {L0 L : List Nat} {os : List (List Nat)} {u : Nat} (h : PartOn E L0 os (u :: L)) : PartOn E L0 (os ++ [partL E (u :: L) u]) (restL E (u :: L) u) := fun ps k => by
  have := h _ (.step u L ps k)
  simpa using this
theorem partOn_stop {E : Nat → Nat → Bool} {L0 : List Nat} {os : List (List Nat)} (h : PartOn E L0 os []) : Parts E L0 os := by
  have := h [] .done
  simpa using this

end Go.Proofs.YtfokiijcpkhllaaDoor

/- Walks: the reference's list operations that make memory. -/
namespace Go.Proofs.YtfokiijcpkhllaaDoor
open Go.RowKit

set_option maxRecDepth 100000 in
set_option maxHeartbeats 1000000 in
theorem l1Copy_any (v : Value) (n : Nat) (vals : List Value) (h1 : ∀ x ∈ vals, x.oneCell' = true) (hl : vals.length = n) (w : World) (hx : Sl w 2 v n vals) :
    Calls Tryd.prog 127 #[v] w fun e w' => ∃ u, e = .returned u ∧ w'.ownsRow w.heap.size 2 1 u n vals ∧ Below w.heap.size w w' := by
  have hn := hx
  obtain ⟨p, c, rfl, _, _, hn, _⟩ := hn
  have hx' := hx.below (below_alloc w (.cells #[] 2))
  have ho := ownsRow_empty w 2 1
  have hb := below_alloc w (.cells #[] 2)
  have hsz : w.heap.size ≤ (w.alloc (.cells #[] 2)).heap.size := hb.size
  have Hl := Lib.hid hl
  clear hl
  go_enter Tryd.func127, Tryd.ntmps127
  go_wp2_with (at_builtin; refine wpList_app ty_i64 rfl rfl rfl ho rfl hx' (by have := Hl.out; omega) h1 (by omega) hsz ?_; intro v' w1 hown' hg _)
  go_ret
  refine ⟨_, rfl, by simpa using hown', below_grown hb ho hg (Nat.le_refl _) hsz⟩

theorem oneCell_ints (K : IntKind) (xs : List Int) : ∀ x ∈ xs.map (Value.int K), x.oneCell' = true := by
  intro x hx
  obtain ⟨y, _, rfl⟩ := List.mem_map.1 hx
  rfl

set_option maxRecDepth 100000 in
set_option maxHeartbeats 1000000 in
theorem l19Less_any (v : Value) (xs : List Int) (n : Int) (w : World) (hx : Nums w 2 .i64 v xs) :
    Calls Tryd.prog 69 #[v, .int .i64 n] w fun e w' => ∃ u, e = .returned u ∧
      w'.ownsRow w.heap.size 2 1 u (lessL xs n).length ((lessL xs n).map (Value.int .i64)) ∧ Below w.heap.size w w' := by
  obtain ⟨p, c, rfl, _, _, hn, hat⟩ := hx
  go_enter Tryd.func69, Tryd.ntmps69
  go_wp2
  go_loopw [5, 6] (fun u i wr => ∃ k : Nat, k ≤ xs.length ∧ i = .int .i64 k ∧ wr.ownsRow w.heap.size 2 1 u (lessL (xs.take k) n).length ((lessL (xs.take k) n).map (Value.int .i64)) ∧ Below w.heap.size w wr)
    (fun _ i _ => xs.length - (intOf i).toNat)
  case atStart => exact ⟨0, Nat.zero_le _, rfl, ownsRow_empty _ _ _, below_alloc _ _⟩
  case round =>
    obtain ⟨k, hk, rfl, hown, hbel⟩ := hrel
    by_cases hlt : k < xs.length
    · obtain ⟨b, o, rfl, hc⟩ := hat.num hlt
      have hcell := hbel.at' hc
      have ht := Lib.hid (take_snoc xs k hlt)
      have hsz := hbel.size
      have hle : (lessL (xs.take k) n).length < 1000000000 := by have := lessL_length (xs.take k) n; rw [List.length_take] at this; omega
      clear hc hat
      by_cases he : xs[k] = n
      · have he' : (xs[k] != n) = false := by simpa using he
        have He := Lib.hid he
        clear he
        go_wp2
        go_roundw
        case rel => exact ⟨k + 1, by omega, by go_num, by rw [ht.out, lessL_snoc, if_pos He.out]; exact hown, hbel⟩
        case measure => simp [intOf]; omega
      · have he' : (xs[k] != n) = true := by simpa using he
        have He := Lib.hid he
        clear he
        go_wp2_with (at_builtin; refine wpList_app1 ty_i64 rfl rfl rfl hown rfl rfl hle hsz ?_; intro v' w1 hown' hg _)
        go_roundw
        case rel =>
          refine ⟨k + 1, by omega, by go_num, ?_, below_grown hbel hown hg (Nat.le_refl _) hsz⟩
          rw [ht.out, lessL_snoc, if_neg He.out, List.map_append, List.length_append]; exact hown'
        case measure => simp [intOf]; omega
    · obtain rfl : k = xs.length := by omega
      go_wp2
      go_ret
      rw [List.take_length] at hown
      exact ⟨_, rfl, hown, hbel⟩

set_option maxRecDepth 100000 in
set_option maxHeartbeats 1000000 in
theorem l16All_any (v : Value) (g : List (List Int)) (hl : g.length ≤ 1000) (w : World) (hg : Gr w v g) :
    Calls Tryd.prog 55 #[v] w fun e w' => ∃ u, e = .returned u ∧
      w'.ownsRow w.heap.size 2 1 u g.length ((allL g.length).map (Value.int .i64)) ∧ Below w.heap.size w w' := by
  obtain ⟨u, rfl, hr⟩ := hg
  obtain ⟨p, c, rfl, _, _, hn⟩ := hr.shape
  have hbox := Box.new w (.slice p g.length c) 29
  have hb1 := below_alloc w (.cells #[.slice p g.length c] 29)
  go_enter Tryd.func55, Tryd.ntmps55
  go_wp2
  go_loopw [3, 4] (fun u i wr => ∃ k : Nat, k ≤ g.length ∧ i = .int .i64 k ∧ wr.ownsRow (w.heap.size + 1) 2 1 u k ((allL k).map (Value.int .i64)) ∧ Below w.heap.size w wr ∧ Box wr w.heap.size 29 (.slice p g.length c))
    (fun _ i _ => g.length - (intOf i).toNat)
  case atStart => exact ⟨0, Nat.zero_le _, rfl, ownsRow_empty' _ _ _ _ _ (Nat.le_refl _), hb1.alloc (by rw [size_alloc]; omega) _, hbox.alloc _⟩
  case round =>
    clear hbox hb1
    obtain ⟨k, hk, rfl, hown, hbel, hbx⟩ := hrel
    obtain ⟨hc, hf, hlt0, _⟩ := id hbx
    have hsz := hbel.size
    by_cases hlt : k < g.length
    · go_wp2_with (at_builtin; refine wpList_app1 ty_i64 rfl rfl rfl hown rfl rfl (by omega) (by omega) ?_; intro v' w1 hown' hg _)
      go_roundw
      case rel =>
        refine ⟨k + 1, by omega, by go_num, ?_, below_grown hbel hown hg (by omega) hsz, ?_⟩
        · rw [allL_succ, List.map_append]; exact hown'
        · exact hbx.below (below_grown (Below.refl (w.heap.size + 1) wr) hown hg (Nat.le_refl _) (by omega)) (by omega)
      case measure => simp [intOf]; omega
    · obtain rfl : k = g.length := by omega
      go_wp2
      go_ret
      exact ⟨_, rfl, ownsRow_base hown (by omega), hbel⟩

end Go.Proofs.YtfokiijcpkhllaaDoor

/- Walk: the reference's list with one more. -/
namespace Go.Proofs.YtfokiijcpkhllaaDoor
open Go.RowKit

set_option maxRecDepth 100000 in
set_option maxHeartbeats 1000000 in
theorem l1Into_any (v : Value) (xs : List Int) (n : Int) (hl : xs.length ≤ 100000000) (w : World) (hx : Nums w 2 .i64 v xs) :
    Calls Tryd.prog 115 #[v, .int .i64 n] w fun e w' => ∃ u, e = .returned u ∧ Nums w' 2 .i64 u (intoL xs n) ∧ Below w.heap.size w w' := by
  have hx0 := Lib.hid hx
  obtain ⟨p, c, rfl, hp, hnc, hn, hat⟩ := hx
  go_enter Tryd.func115, Tryd.ntmps115
  go_wp2
  go_loop [5] (fun i => ∃ k : Nat, k ≤ xs.length ∧ i = .int .i64 k ∧ ∀ j (hj : j < xs.length), j < k → xs[j] < n) (fun i => xs.length - (intOf i).toNat)
  case atStart => exact ⟨0, Nat.zero_le _, rfl, fun j hj h => by omega⟩
  case round =>
    obtain ⟨k, hk, rfl, hlow⟩ := hrel
    have Hlow := Lib.hid hlow
    clear hlow
    by_cases hlt : k < xs.length
    · obtain ⟨b, o, rfl, hcell⟩ := hat.num hlt
      by_cases h1 : xs[k] < n
      · go_wp2
        go_round
        case rel =>
          refine ⟨k + 1, by omega, by go_num, fun j hj h => ?_⟩
          by_cases e : j = k
          · subst e; exact h1
          · exact Hlow.out j hj (by omega)
        case measure => simp [intOf]; omega
      · by_cases h2 : xs[k] = n
        · have h2' : (xs[k] == n) = true := by simpa using h2
          have H := Lib.hid (intoL_eq hlt Hlow.out h1 h2)
          clear h2
          go_wp2
          go_ret
          exact ⟨_, rfl, by rw [H.out]; exact hx0.out, Below.refl _ _⟩
        · have h2' : (xs[k] == n) = false := by simpa using h2
          have H := Lib.hid (intoL_new hk Hlow.out (fun _ => h1) (fun _ => h2))
          clear h2
          have hsl : Sl w 2 (.slice (some ⟨b, o, none⟩) k c) k ((xs.take k).map (Value.int .i64)) :=
            ⟨_, _, rfl, (fun e => by cases e), by omega, by omega, by rw [List.map_take]; exact hat.take k⟩
          have hkc : k < c := by omega
          have hd : Sl w 2 (.slice (some ⟨b, o + k, none⟩) (xs.length - k) (c - k)) (xs.length - k) ((xs.drop k).map (Value.int .i64)) :=
            ⟨_, _, rfl, (fun e => by cases e), by omega, by omega, by rw [List.map_drop]; exact hat.drop k⟩
          go_wp2_with (first
            | (go_at_call 127; refine (l1Copy_any _ k _ (oneCell_ints _ _) (by simp; omega) _ hsl).mono ?_; rintro e w1 ⟨u1, rfl, hown1, hb1⟩)
            | (at_builtin; refine wpList_app1 ty_i64 rfl rfl rfl hown1 rfl rfl (by omega) hb1.size ?_; intro v2 w2 hown2 hg2 _; have hb2 := below_grown hb1 hown1 hg2 (Nat.le_refl _) hb1.size; have hd2 : Sl w2 2 (.slice (some ⟨b, o + k, none⟩) (xs.length - k) (c - k)) (xs.length - k) ((xs.drop k).map (Value.int .i64)) := hd.below hb2)
            | (at_builtin; refine wpList_app ty_i64 rfl rfl rfl hown2 rfl hd2 (by simp) (oneCell_ints _ _) (by omega) hb2.size ?_; intro v3 w3 hown3 hg3 _))
          go_ret
          refine ⟨_, rfl, ?_, below_grown hb2 hown2 hg3 (Nat.le_refl _) hb2.size⟩
          have e : (xs.take k).map (Value.int .i64) ++ [Value.int .i64 n] ++ (xs.drop k).map (Value.int .i64) = (intoL xs n).map (Value.int .i64) := by rw [H.out]; simp
          rw [e] at hown3
          have hlen : k + 1 + (xs.length - k) = (intoL xs n).length := by rw [H.out]; simp; omega
          exact Nums.of_owns hown3 hlen (by omega)
    · obtain rfl : k = xs.length := by omega
      have H := Lib.hid (intoL_new hk Hlow.out (fun h => absurd h hlt) (fun h => absurd h hlt))
      have hsl : Sl w 2 (.slice p xs.length c) xs.length (xs.map (Value.int .i64)) := hx0.out
      have hfin : ∀ (w2 : World) (u : Value), w2.ownsRow w.heap.size 2 1 u (xs.length + 1 + 0) (xs.map (Value.int .i64) ++ [Value.int .i64 n] ++ []) → Nums w2 2 .i64 u (intoL xs n) := by
        intro w2 u ho
        have e : xs.map (Value.int .i64) ++ [Value.int .i64 n] ++ [] = (intoL xs n).map (Value.int .i64) := by rw [H.out]; simp
        rw [e] at ho
        exact Nums.of_owns ho (by rw [H.out]; simp) (by omega)
      rcases p with _ | a
      · obtain ⟨h0, rfl⟩ := hp rfl
        have h0' : xs = [] := List.eq_nil_of_length_eq_zero h0
        subst h0'
        go_wp2_with (first
          | (go_at_call 127; refine (l1Copy_any _ 0 _ (oneCell_ints _ _) rfl _ hsl).mono ?_; rintro e w1 ⟨u1, rfl, hown1, hb1⟩)
          | (at_builtin; refine wpList_app1 ty_i64 rfl rfl rfl hown1 rfl rfl (by omega) hb1.size ?_; intro v2 w2 hown2 hg2 _; have hb2 := below_grown hb1 hown1 hg2 (Nat.le_refl _) hb1.size)
          | (at_builtin; refine wpList_app ty_i64 rfl rfl rfl hown2 rfl (Sl.nothing _ _ _ _ (fun _ => rfl)) rfl (fun x hx => by cases hx) (by omega) hb2.size ?_; intro v3 w3 hown3 hg3 _))
        go_ret
        exact ⟨_, rfl, hfin _ _ hown3, below_grown hb2 hown2 hg3 (Nat.le_refl _) hb2.size⟩
      · by_cases hcl : c = xs.length
        · subst hcl
          go_wp2_with (first
            | (go_at_call 127; refine (l1Copy_any _ xs.length _ (oneCell_ints _ _) (by simp) _ hsl).mono ?_; rintro e w1 ⟨u1, rfl, hown1, hb1⟩)
            | (at_builtin; refine wpList_app1 ty_i64 rfl rfl rfl hown1 rfl rfl (by omega) hb1.size ?_; intro v2 w2 hown2 hg2 _; have hb2 := below_grown hb1 hown1 hg2 (Nat.le_refl _) hb1.size)
            | (at_builtin; refine wpList_app ty_i64 rfl rfl rfl hown2 rfl (Sl.nothing _ _ _ _ (fun e => by cases e)) rfl (fun x hx => by cases hx) (by omega) hb2.size ?_; intro v3 w3 hown3 hg3 _))
          go_ret
          exact ⟨_, rfl, hfin _ _ hown3, below_grown hb2 hown2 hg3 (Nat.le_refl _) hb2.size⟩
        · have hcl' : xs.length < c := by omega
          go_wp2_with (first
            | (go_at_call 127; refine (l1Copy_any _ xs.length _ (oneCell_ints _ _) (by simp) _ hsl).mono ?_; rintro e w1 ⟨u1, rfl, hown1, hb1⟩)
            | (at_builtin; refine wpList_app1 ty_i64 rfl rfl rfl hown1 rfl rfl (by omega) hb1.size ?_; intro v2 w2 hown2 hg2 _; have hb2 := below_grown hb1 hown1 hg2 (Nat.le_refl _) hb1.size)
            | (at_builtin; refine wpList_app ty_i64 rfl rfl rfl hown2 rfl (Sl.nothing _ _ _ _ (fun e => by cases e)) rfl (fun x hx => by cases hx) (by omega) hb2.size ?_; intro v3 w3 hown3 hg3 _))
          go_ret
          exact ⟨_, rfl, hfin _ _ hown3, below_grown hb2 hown2 hg3 (Nat.le_refl _) hb2.size⟩

end Go.Proofs.YtfokiijcpkhllaaDoor
