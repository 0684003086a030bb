/- Plain: the barrier: the least set that leaves the most odd parts too many. -/
import Derived.Test.YtiooindlpinjhaaDoorBaQ26
import Derived.Test.YtiooindlpinjhaaDoorBaQ27
import Derived.Test.YtiooindlpinjhaaDoorBaQ13
namespace Go.Proofs.YtiooindlpinjhaaDoor

noncomputable def oddK (E : Nat → Nat → Bool) (K : List Nat) : Nat := oddL (Classical.choose (parts_exB E K.length K (Nat.le_refl _)))
theorem oddK_eq {E : Nat → Nat → Bool} {K : List Nat} {ps : List (List Nat)} (h : Parts E K ps) : oddK E K = oddL ps := by
  unfold oddK
  rw [parts_det (Classical.choose_spec (parts_exB E K.length K (Nat.le_refl _))) h]
theorem oddK_parts (E : Nat → Nat → Bool) (K : List Nat) : ∃ ps, Parts E K ps ∧ oddL ps = oddK E K := by
  obtain ⟨ps, h⟩ := parts_exB E K.length K (Nat.le_refl _)
  exact ⟨ps, h, (oddK_eq h).symm⟩
/-- Who is left without a set. -/
def leftK (n s : Nat) : List Nat := bitsOf (sub (2 ^ n - 1) s)
theorem mem_leftK {n s x : Nat} (hn : n ≤ 16) (hs : s < 2 ^ n) : x ∈ leftK n s ↔ x ∈ List.range n ∧ x ∉ bitsOf s := by
  have h16 := (cand_bits hn hs).2
  have hp : 2 ^ n ≤ 2 ^ 16 := Nat.pow_le_pow_right (by decide) hn
  have h2 : 2 ^ n - 1 < 4294967296 := by omega
  unfold leftK
  rw [mem_bitsOf' (sub_lt32 _ _ h2), testBit_sub _ _ h2 (by omega), Nat.testBit_two_pow_sub_one, List.mem_range, mem_bitsOf' (by omega)]
  simp
theorem nodup_bits (s : Nat) : (bitsOf s).Nodup := (bitsOf_rising s).imp fun h => Nat.ne_of_lt h
/-- The odd parts without a set. -/
noncomputable def oddN (n : Nat) (E : Nat → Nat → Bool) (s : Nat) : Nat := oddK E (leftK n s)
/-- A set that says of a greatest matching that it is. -/
def BarP (n : Nat) (E : Nat → Nat → Bool) (s : Nat) : Prop := oddN n E s + 2 * nuL E (List.range n) = n + (bitsOf s).length
/-- What BarrierOf returns. -/
def BarS (g : List (List Int)) (l : List Int) : Prop := (GOk g ∧ ∃ s, LeastP (BarP g.length (ofG g)) g.length s ∧ l = natInts (bitsOf s)) ∨ (¬ GOk g ∧ l = [])
theorem barS_det {g : List (List Int)} {l m : List Int} (h : BarS g l) (k : BarS g m) : l = m := by
  rcases h with ⟨hg, s, hs, rfl⟩ | ⟨hg, rfl⟩ <;> rcases k with ⟨kg, t, ht, rfl⟩ | ⟨kg, rfl⟩
  · rw [leastP_det hg.le hs ht]
  · exact absurd hg kg
  · exact absurd kg hg
  · rfl
section
variable {n : Nat} {E : Nat → Nat → Bool} (hn : n ≤ 16) (hs : ∀ x y, E x y = true → E y x = true)
include hn hs
theorem bar_le {s : Nat} (h : s < 2 ^ n) : oddN n E s + 2 * nuL E (List.range n) ≤ n + (bitsOf s).length := by
  obtain ⟨ps, h1, h2⟩ := oddK_parts E (leftK n s)
  have := gap_le hs (L := List.range n) (U := bitsOf s) List.nodup_range (fun x => mem_leftK hn h) (nodup_bits _) h1
  rw [h2, List.length_range] at this
  exact this
theorem bar_ex : ∃ s, s < 2 ^ n ∧ BarP n E s := by
  obtain ⟨U, u1, u2, u3⟩ := gap_ex hs (L := List.range n) List.nodup_range
  obtain ⟨s, hs0⟩ : ∃ s, s = mask (natInts U) := ⟨_, rfl⟩
  have hlt : s < 2 ^ n := by
    rw [hs0]
    refine Nat.lt_pow_two_of_testBit _ fun j hj => ?_
    rw [mask_bit, decide_eq_false_iff_not]
    intro hm
    have := List.mem_range.1 (u2 j hm)
    omega
  have hmem : ∀ x, x ∈ bitsOf s ↔ x ∈ U := fun x => by
    have := (cand_bits hn hlt).2
    rw [mem_bitsOf' (by omega), hs0, mask_bit, decide_eq_true_iff]
  have hlen : (bitsOf s).length = U.length := ((List.perm_ext_iff_of_nodup (nodup_bits s) u1).2 hmem).length_eq
  obtain ⟨ps, h1, h2⟩ := oddK_parts E (leftK n s)
  have := u3 (leftK n s) (fun x => by rw [mem_leftK hn hlt, hmem]) (nodup_bits _) ps h1
  refine ⟨s, hlt, ?_⟩
  unfold BarP oddN
  rw [← h2, hlen]
  rw [List.length_range] at this
  exact this
end

/-- By how many there are odd parts too many. -/
noncomputable def valB (n : Nat) (E : Nat → Nat → Bool) (s : Nat) : Int := (oddN n E s : Int) - ((bitsOf s).length : Int)
/-- The reference's best one below k. -/
def BaI (n : Nat) (E : Nat → Nat → Bool) (k b : Nat) (m : Int) : Prop := (k = 0 ∧ b = 0 ∧ m < 0) ∨ (b < k ∧ m = valB n E b ∧ ∀ j, j < k → valB n E j ≤ m ∧ (valB n E j = m → ¬ lessP (bitsOf j) (bitsOf b)))
theorem valB_zero (n : Nat) (E : Nat → Nat → Bool) : 0 ≤ valB n E 0 := by
  unfold valB
  rw [bitsOf_zero]
  simp
theorem BaI.keep {n k b : Nat} {E : Nat → Nat → Bool} {m : Int} (h : BaI n E k b m) (hk : valB n E k < m ∨ (valB n E k = m ∧ ¬ lessP (bitsOf k) (bitsOf b))) : BaI n E (k + 1) b m := by
  rcases h with ⟨rfl, rfl, hm⟩ | ⟨h1, h2, h3⟩
  · have := valB_zero n E
    omega
  · refine .inr ⟨by omega, h2, fun j hj => ?_⟩
    by_cases e : j < k
    · exact h3 j e
    · obtain rfl : j = k := by omega
      rcases hk with hk | ⟨hk, hl⟩
      · exact ⟨by omega, fun e => by omega⟩
      · exact ⟨by omega, fun _ => hl⟩
theorem BaI.new {n k b : Nat} {E : Nat → Nat → Bool} {m : Int} (h : BaI n E k b m) (hk : m < valB n E k ∨ (valB n E k = m ∧ lessP (bitsOf k) (bitsOf b))) : BaI n E (k + 1) k (valB n E k) := by
  refine .inr ⟨by omega, rfl, fun j hj => ?_⟩
  by_cases e : j < k
  · rcases h with ⟨rfl, _, _⟩ | ⟨h1, h2, h3⟩
    · omega
    · obtain ⟨a, c⟩ := h3 j e
      rcases hk with hk | ⟨hk, hl⟩
      · exact ⟨by omega, fun e => by omega⟩
      · exact ⟨by omega, fun e hlt => c (by omega) (lessP_trans hlt hl)⟩
  · obtain rfl : j = k := by omega
    exact ⟨Int.le_refl _, fun _ => lessP_irrefl _⟩
theorem BaI.fin {n b : Nat} (hn : n ≤ 16) {E : Nat → Nat → Bool} (hs : ∀ x y, E x y = true → E y x = true) {m : Int} (h : BaI n E (2 ^ n) b m) : LeastP (BarP n E) n b := by
  have hpos := Nat.two_pow_pos n
  rcases h with ⟨h0, _, _⟩ | ⟨h1, h2, h3⟩
  · omega
  obtain ⟨s, s1, s2⟩ := bar_ex hn hs
  have hb := bar_le hn hs h1
  have hsv := (h3 s s1).1
  unfold valB at hsv h2
  unfold BarP at s2
  have hbP : BarP n E b := by
    unfold BarP
    omega
  refine ⟨h1, hbP, fun t ht hP => ?_⟩
  have h4 := (h3 t ht).2
  unfold BarP at hP hbP
  unfold valB at h4
  exact h4 (by omega)

/-! ### The lowest bit in which two sets differ -/
theorem lex_low {a b q : Nat} (ha : a < 65536) (hb : b < 65536) (hlow : ∀ j, j < q → a.testBit j = b.testBit j) (hq : a.testBit q ≠ b.testBit q) (hlen : (bitsOf a).length = (bitsOf b).length) : lexL (bitsOf a) (bitsOf b) ↔ a.testBit q = true := by
  have key : ∀ (A B : List Nat), A.Pairwise (· < ·) → B.Pairwise (· < ·) → A.length = B.length → (∀ j, j < q → (j ∈ A ↔ j ∈ B)) → q ∈ A → q ∉ B → lexL A B := by
    intro A
    induction A with
    | nil => intro B _ _ _ _ h _; cases h
    | cons x A ih =>
      intro B hA hB hl hlow hqA hqB
      cases B with
      | nil => simp at hl
      | cons y B =>
        have hA' := List.pairwise_cons.1 hA
        have hB' := List.pairwise_cons.1 hB
        by_cases hxy : x < y
        · exact .inl hxy
        by_cases hyx : y < x
        · exfalso
          have hxq : x ≤ q := by
            rcases List.mem_cons.1 hqA with e | e
            · omega
            · have := hA'.1 q e; omega
          have : y ∈ x :: A := (hlow y (by omega)).2 (by simp)
          rcases List.mem_cons.1 this with e | e
          · omega
          · have := hA'.1 y e; omega
        obtain rfl : x = y := by omega
        refine .inr ⟨rfl, ih B hA'.2 hB'.2 (by simpa using hl) (fun j hj => ?_) ?_ (fun h => hqB (List.mem_cons_of_mem _ h))⟩
        · have := hlow j hj
          simp only [List.mem_cons] at this
          constructor
          · intro h
            rcases this.1 (.inr h) with e | e
            · have := hA'.1 j h; omega
            · exact e
          · intro h
            rcases this.2 (.inr h) with e | e
            · have := hB'.1 j h; omega
            · exact e
        · rcases List.mem_cons.1 hqA with e | e
          · exact absurd (by rw [e]; simp) hqB
          · exact e
  have ma : ∀ x, x ∈ bitsOf a ↔ a.testBit x = true := fun x => mem_bitsOf' (by omega)
  have mb : ∀ x, x ∈ bitsOf b ↔ b.testBit x = true := fun x => mem_bitsOf' (by omega)
  constructor
  · intro h
    refine Classical.byContradiction fun hn => ?_
    have hbq : b.testBit q = true := by
      cases e : b.testBit q
      · rw [e] at hq; exact absurd (by simpa using hn) hq
      · rfl
    have := key (bitsOf b) (bitsOf a) (bitsOf_rising _) (bitsOf_rising _) hlen.symm (fun j hj => by rw [ma, mb, hlow j hj]) ((mb q).2 hbq) (fun e => hn ((ma q).1 e))
    exact lexL_irrefl _ (lexL_trans h this)
  · intro h
    exact key _ _ (bitsOf_rising _) (bitsOf_rising _) hlen (fun j hj => by rw [ma, mb, hlow j hj]) ((ma q).2 h) (fun e => hq (by rw [h, (mb q).1 e]))

end Go.Proofs.YtiooindlpinjhaaDoor
