/- Plain: the size of a greatest matching by the least vertex; how many are left out. -/
import Derived.Test.YtiooindlpinjhaaDoorBbQ17
import Derived.Test.YtiooindlpinjhaaDoorBbQ9
import Derived.Test.YtiooindlpinjhaaDoorBbQ12
import Derived.Test.YtiooindlpinjhaaDoorBbQ11
namespace Go.Proofs.YtiooindlpinjhaaDoor

/-- The size of a greatest matching within a list. -/
noncomputable def nuL (E : Nat → Nat → Bool) (L : List Nat) : Nat := (L.length - freN L (Classical.choose (mx_ex E L))) / 2
theorem nu_max {E : Nat → Nat → Bool} {L : List Nat} (hn : L.Nodup) : ∃ M, MxM E L M ∧ freN L M + 2 * nuL E L = L.length := by
  have h := Classical.choose_spec (mx_ex E L)
  refine ⟨_, h, ?_⟩
  have h1 := h.1.par hn
  have h2 := freN_le L (Classical.choose (mx_ex E L))
  unfold nuL
  omega
theorem nu_le {E : Nat → Nat → Bool} {L : List Nat} (hn : L.Nodup) {N : Nat → Nat} (h : Mt E L N) : L.length ≤ freN L N + 2 * nuL E L := by
  obtain ⟨M, h1, h2⟩ := nu_max (E := E) hn
  have := h1.2 N h
  omega
theorem nu_eq {E : Nat → Nat → Bool} {L : List Nat} (hn : L.Nodup) {k : Nat} (h1 : ∃ M, Mt E L M ∧ freN L M + 2 * k = L.length) (h2 : ∀ N, Mt E L N → L.length ≤ freN L N + 2 * k) : nuL E L = k := by
  obtain ⟨M, m1, m2⟩ := h1
  obtain ⟨K, k1, k2⟩ := nu_max (E := E) hn
  have a := nu_le hn m1
  have b := h2 K k1.1
  omega
theorem nu_half (E : Nat → Nat → Bool) {L : List Nat} (hn : L.Nodup) : 2 * nuL E L ≤ L.length := by
  obtain ⟨K, _, k2⟩ := nu_max (E := E) hn
  omega
theorem nu_nil (E : Nat → Nat → Bool) : nuL E [] = 0 := by
  have := nu_half E (L := []) List.nodup_nil
  rw [List.length_nil] at this
  omega
section
variable {E : Nat → Nat → Bool} (hs : ∀ x y, E x y = true → E y x = true)
omit hs in
theorem nu_rest {v : Nat} {R : List Nat} (hn : (v :: R).Nodup) : nuL E R ≤ nuL E (v :: R) := by
  obtain ⟨hv, hR⟩ := List.nodup_cons.1 hn
  obtain ⟨M, m1, m2⟩ := nu_max (E := E) hR
  have hMv : M v = v := Classical.byContradiction fun e => hv (m1.1.inn v e)
  have := nu_le hn (m1.1.sub (K := v :: R) fun x hx => List.mem_cons_of_mem _ hx)
  rw [freN_cons, if_pos hMv, List.length_cons] at this
  omega
include hs
theorem nu_with {v u : Nat} {R : List Nat} (hn : (v :: R).Nodup) (hu : u ∈ R) (hE : E v u = true) : nuL E (R.erase u) + 1 ≤ nuL E (v :: R) := by
  obtain ⟨hv, hR⟩ := List.nodup_cons.1 hn
  have hQ : (R.erase u).Nodup := hR.erase u
  obtain ⟨M, m1, m2⟩ := nu_max (E := E) hQ
  have hp := List.perm_cons_erase hu
  have hlen := hp.length_eq
  have huQ : u ∉ R.erase u := fun h => ((List.Nodup.mem_erase_iff hR).1 h).1 rfl
  have hMv : M v = v := Classical.byContradiction fun e => hv (List.mem_of_mem_erase (m1.1.inn v e))
  have hMu : M u = u := Classical.byContradiction fun e => huQ (m1.1.inn u e)
  have hvu : v ≠ u := fun e => hv (e ▸ hu)
  have hM' : Mt E (v :: R) M := m1.1.sub fun x hx => List.mem_cons_of_mem _ (List.mem_of_mem_erase hx)
  have huL : u ∈ v :: R := List.mem_cons_of_mem _ hu
  have hvL : v ∈ v :: R := List.mem_cons_self ..
  have a := nu_le hn (hM'.add hs hvL huL hE hMv hMu)
  have b := fre_add hn hvL huL hvu hMv hMu
  have c : freN (v :: R) M = freN (R.erase u) M + 2 := by
    rw [freN_cons, if_pos hMv, freN_perm hp, freN_cons, if_pos hMu]
  rw [List.length_cons] at a hlen
  omega
omit hs in
theorem nu_cases {v : Nat} {R : List Nat} (hn : (v :: R).Nodup) : nuL E (v :: R) ≤ nuL E R ∨ ∃ u ∈ R, E v u = true ∧ nuL E (v :: R) ≤ nuL E (R.erase u) + 1 := by
  obtain ⟨hv, hR⟩ := List.nodup_cons.1 hn
  obtain ⟨M, m1, m2⟩ := nu_max (E := E) hn
  by_cases hMv : M v = v
  · refine .inl ?_
    have hM : Mt E R M := ⟨m1.1.inv, m1.1.edge, fun x hx => by
      rcases List.mem_cons.1 (m1.1.inn x hx) with e | e
      · rw [e] at hx; exact absurd hMv hx
      · exact e⟩
    have := nu_le hR hM
    rw [freN_cons, if_pos hMv, List.length_cons] at m2
    omega
  · obtain ⟨w, hw⟩ : ∃ w, w = M v := ⟨_, rfl⟩
    have hMw : M w = v := by rw [hw, m1.1.inv]
    have hwv : w ≠ v := by rw [hw]; exact hMv
    have hwR : w ∈ R := by
      rcases List.mem_cons.1 (m1.1.inn' hMv) with e | e
      · exact absurd e hMv
      · rw [hw]; exact e
    refine .inr ⟨w, hwR, by rw [hw]; exact m1.1.edge v hMv, ?_⟩
    have hp := List.perm_cons_erase hwR
    have hlen := hp.length_eq
    have hwQ : w ∉ R.erase w := fun h => ((List.Nodup.mem_erase_iff hR).1 h).1 rfl
    have hD : Mt E (R.erase w) (fun x => if x = v ∨ x = w then x else M x) := {
      inv := fun x => by
        by_cases e : x = v ∨ x = w
        · simp only [if_pos e]
        · have e2 : ¬ (M x = v ∨ M x = w) := fun h => e (by
            rcases h with h | h
            · exact .inr (by have := congrArg M h; rw [m1.1.inv, ← hw] at this; exact this)
            · exact .inl (by have := congrArg M h; rw [m1.1.inv, hMw] at this; exact this))
          simp only [if_neg e, if_neg e2, m1.1.inv]
      edge := fun x hx => by
        by_cases e : x = v ∨ x = w
        · simp only [if_pos e] at hx; exact absurd rfl hx
        · simp only [if_neg e] at hx ⊢; exact m1.1.edge x hx
      inn := fun x hx => by
        by_cases e : x = v ∨ x = w
        · simp only [if_pos e] at hx; exact absurd rfl hx
        · simp only [if_neg e] at hx
          rcases List.mem_cons.1 (m1.1.inn x hx) with e3 | e3
          · exact absurd (.inl e3) e
          · exact (List.Nodup.mem_erase_iff hR).2 ⟨fun e4 => e (.inr e4), e3⟩ }
    have a := nu_le (hR.erase w) hD
    have c : freN (R.erase w) (fun x => if x = v ∨ x = w then x else M x) = freN (v :: R) M := by
      rw [freN_cons, if_neg hMv, freN_perm hp, freN_cons, hMw, if_neg (fun e => hwv e.symm)]
      refine freN_congr fun x hx => if_neg fun e => ?_
      rcases e with e | e
      · exact hv (e ▸ List.mem_of_mem_erase hx)
      · exact hwQ (e ▸ hx)
    rw [List.length_cons] at hlen m2
    omega

/-- The greatest of one and of one more than each. -/
def mxF (a : Nat) (l : List Nat) : Nat := l.foldl (fun a n => max a (n + 1)) a
omit hs in
theorem mxF_snoc (a : Nat) (l : List Nat) (n : Nat) : mxF a (l ++ [n]) = max (mxF a l) (n + 1) := by simp [mxF]
omit hs in
theorem mxF_spec : ∀ (l : List Nat) (a : Nat), a ≤ mxF a l ∧ (∀ n ∈ l, n + 1 ≤ mxF a l) ∧ (mxF a l = a ∨ ∃ n ∈ l, mxF a l = n + 1)
  | [], a => ⟨Nat.le_refl _, fun _ h => absurd h (by simp), .inl rfl⟩
  | n :: l, a => by
    obtain ⟨h1, h2, h3⟩ := mxF_spec l (max a (n + 1))
    have e : mxF a (n :: l) = mxF (max a (n + 1)) l := rfl
    rw [e]
    refine ⟨by omega, fun m hm => ?_, ?_⟩
    · rcases List.mem_cons.1 hm with rfl | hm
      · omega
      · exact h2 m hm
    · rcases h3 with h3 | ⟨m, hm, h3⟩
      · rw [h3]
        by_cases e : n + 1 ≤ a
        · exact .inl (by omega)
        · exact .inr ⟨n, List.mem_cons_self .., by omega⟩
      · exact .inr ⟨m, List.mem_cons_of_mem _ hm, h3⟩
theorem nu_step {v : Nat} {R W : List Nat} (hn : (v :: R).Nodup) (hW : ∀ u, u ∈ W ↔ u ∈ R ∧ E v u = true) : nuL E (v :: R) = mxF (nuL E R) (W.map fun u => nuL E (R.erase u)) := by
  obtain ⟨h1, h2, h3⟩ := mxF_spec (W.map fun u => nuL E (R.erase u)) (nuL E R)
  refine Nat.le_antisymm ?_ ?_
  · rcases nu_cases (E := E) hn with h | ⟨u, hu, hE, h⟩
    · omega
    · have := h2 _ (List.mem_map.2 ⟨u, (hW u).2 ⟨hu, hE⟩, rfl⟩)
      omega
  · rcases h3 with h3 | ⟨m, hm, h3⟩
    · rw [h3]; exact nu_rest hn
    · obtain ⟨u, hu, rfl⟩ := List.mem_map.1 hm
      obtain ⟨a, b⟩ := (hW u).1 hu
      rw [h3]; exact nu_with hs hn a b

/-- The formula for the number: no set has more odd parts too many, and some set has as many. -/
theorem gap_le {L U K : List Nat} (hn : L.Nodup) (hK : ∀ x, x ∈ K ↔ x ∈ L ∧ x ∉ U) (hKn : K.Nodup) {ps : List (List Nat)} (hp : Parts E K ps) : oddL ps + 2 * nuL E L ≤ L.length + U.length := by
  obtain ⟨M, m1, m2⟩ := nu_max (E := E) hn
  have := odd_le hs hK hKn m1.1 hp
  omega
theorem gap_ex {L : List Nat} (hn : L.Nodup) : ∃ U : List Nat, U.Nodup ∧ (∀ x ∈ U, x ∈ L) ∧ ∀ K : List Nat, (∀ x, x ∈ K ↔ x ∈ L ∧ x ∉ U) → K.Nodup → ∀ ps, Parts E K ps → oddL ps + 2 * nuL E L = L.length + U.length := by
  obtain ⟨U, M, u1, u2, u3, u4⟩ := tutte_berge hs L.length L (Nat.le_refl _) hn
  refine ⟨U, u1, u2, fun K hK hKn ps hp => ?_⟩
  have a := u4 K hK hKn ps hp
  have b := gap_le hs hn hK hKn hp
  have c := nu_le hn u3
  omega
end

end Go.Proofs.YtiooindlpinjhaaDoor

/- Plain: the barrier: the least set that leaves the most odd parts too many. -/
namespace Go.Proofs.YtiooindlpinjhaaDoor

noncomputable def oddK (E : Nat → Nat → Bool) (K : List Nat) : Nat := oddL (Classical.choose (parts_exB E K.length K (Nat.le_refl _)))
theorem oddK_eq {E : Nat → Nat → Bool} {K : List Nat} {ps : List (List Nat)} (h : Parts E K ps) : oddK E K = oddL ps := by
  unfold oddK
  rw [parts_det (Classical.choose_spec (parts_exB E K.length K (Nat.le_refl _))) h]
theorem oddK_parts (E : Nat → Nat → Bool) (K : List Nat) : ∃ ps, Parts E K ps ∧ oddL ps = oddK E K := by
  obtain ⟨ps, h⟩ := parts_exB E K.length K (Nat.le_refl _)
  exact ⟨ps, h, (oddK_eq h).symm⟩
/-- Who is left without a set. -/
def leftK (n s : Nat) : List Nat := bitsOf (sub (2 ^ n - 1) s)
theorem mem_leftK {n s x : Nat} (hn : n ≤ 16) (hs : s < 2 ^ n) : x ∈ leftK n s ↔ x ∈ List.range n ∧ x ∉ bitsOf s := by
  have h16 := (cand_bits hn hs).2
  have hp : 2 ^ n ≤ 2 ^ 16 := Nat.pow_le_pow_right (by decide) hn
  have h2 : 2 ^ n - 1 < 4294967296 := by omega
  unfold leftK
  rw [mem_bitsOf' (sub_lt32 _ _ h2), testBit_sub _ _ h2 (by omega), Nat.testBit_two_pow_sub_one, List.mem_range, mem_bitsOf' (by omega)]
  simp
theorem nodup_bits (s : Nat) : (bitsOf s).Nodup := (bitsOf_rising s).imp fun h => Nat.ne_of_lt h
/-- The odd parts without a set. -/
noncomputable def oddN (n : Nat) (E : Nat → Nat → Bool) (s : Nat) : Nat := oddK E (leftK n s)
/-- A set that says of a greatest matching that it is. -/
def BarP (n : Nat) (E : Nat → Nat → Bool) (s : Nat) : Prop := oddN n E s + 2 * nuL E (List.range n) = n + (bitsOf s).length
/-- What BarrierOf returns. -/
def BarS (g : List (List Int)) (l : List Int) : Prop := (GOk g ∧ ∃ s, LeastP (BarP g.length (ofG g)) g.length s ∧ l = natInts (bitsOf s)) ∨ (¬ GOk g ∧ l = [])
theorem barS_det {g : List (List Int)} {l m : List Int} (h : BarS g l) (k : BarS g m) : l = m := by
  rcases h with ⟨hg, s, hs, rfl⟩ | ⟨hg, rfl⟩ <;> rcases k with ⟨kg, t, ht, rfl⟩ | ⟨kg, rfl⟩
  · rw [leastP_det hg.le hs ht]
  · exact absurd hg kg
  · exact absurd kg hg
  · rfl
section
variable {n : Nat} {E : Nat → Nat → Bool} (hn : n ≤ 16) (hs : ∀ x y, E x y = true → E y x = true)
include hn hs
theorem bar_le {s : Nat} (h : s < 2 ^ n) : oddN n E s + 2 * nuL E (List.range n) ≤ n + (bitsOf s).length := by
  obtain ⟨ps, h1, h2⟩ := oddK_parts E (leftK n s)
  have := gap_le hs (L := List.range n) (U := bitsOf s) List.nodup_range (fun x => mem_leftK hn h) (nodup_bits _) h1
  rw [h2, List.length_range] at this
  exact this
theorem bar_ex : ∃ s, s < 2 ^ n ∧ BarP n E s := by
  obtain ⟨U, u1, u2, u3⟩ := gap_ex hs (L := List.range n) List.nodup_range
  obtain ⟨s, hs0⟩ : ∃ s, s = mask (natInts U) := ⟨_, rfl⟩
  have hlt : s < 2 ^ n := by
    rw [hs0]
    refine Nat.lt_pow_two_of_testBit _ fun j hj => ?_
    rw [mask_bit, decide_eq_false_iff_not]
    intro hm
    have := List.mem_range.1 (u2 j hm)
    omega
  have hmem : ∀ x, x ∈ bitsOf s ↔ x ∈ U := fun x => by
    have := (cand_bits hn hlt).2
    rw [mem_bitsOf' (by omega), hs0, mask_bit, decide_eq_true_iff]
  have hlen : (bitsOf s).length = U.length := ((List.perm_ext_iff_of_nodup (nodup_bits s) u1).2 hmem).length_eq
  obtain ⟨ps, h1, h2⟩ := oddK_parts E (leftK n s)
  have := u3 (leftK n s) (fun x => by rw [mem_leftK hn hlt, hmem]) (nodup_bits _) ps h1
  refine ⟨s, hlt, ?_⟩
  unfold BarP oddN
  rw [← h2, hlen]
  rw [List.length_range] at this
  exact this
end

/-- By how many there are odd parts too many. -/
noncomputable def valB (n : Nat) (E : Nat → Nat → Bool) (s : Nat) : Int := (oddN n E s : Int) - ((bitsOf s).length : Int)
/-- The reference's best one below k. -/
def BaI (n : Nat) (E : Nat → Nat → Bool) (k b : Nat) (m : Int) : Prop := (k = 0 ∧ b = 0 ∧ m < 0) ∨ (b < k ∧ m = valB n E b ∧ ∀ j, j < k → valB n E j ≤ m ∧ (valB n E j = m → ¬ lessP (bitsOf j) (bitsOf b)))
theorem valB_zero (n : Nat) (E : Nat → Nat → Bool) : 0 ≤ valB n E 0 := by
  unfold valB
  rw [bitsOf_zero]
  simp
theorem BaI.keep {n k b : Nat} {E : Nat → Nat → Bool} {m : Int} (h : BaI n E k b m) (hk : valB n E k < m ∨ (valB n E k = m ∧ ¬ lessP (bitsOf k) (bitsOf b))) : BaI n E (k + 1) b m := by
  rcases h with ⟨rfl, rfl, hm⟩ | ⟨h1, h2, h3⟩
  · have := valB_zero n E
    omega
  · refine .inr ⟨by omega, h2, fun j hj => ?_⟩
    by_cases e : j < k
    · exact h3 j e
    · obtain rfl : j = k := by omega
      rcases hk with hk | ⟨hk, hl⟩
      · exact ⟨by omega, fun e => by omega⟩
      · exact ⟨by omega, fun _ => hl⟩
theorem BaI.new {n k b : Nat} {E : Nat → Nat → Bool} {m : Int} (h : BaI n E k b m) (hk : m < valB n E k ∨ (valB n E k = m ∧ lessP (bitsOf k) (bitsOf b))) : BaI n E (k + 1) k (valB n E k) := by
  refine .inr ⟨by omega, rfl, fun j hj => ?_⟩
  by_cases e : j < k
  · rcases h with ⟨rfl, _, _⟩ | ⟨h1, h2, h3⟩
    · omega
    · obtain ⟨a, c⟩ := h3 j e
      rcases hk with hk | ⟨hk, hl⟩
      · exact ⟨by omega, fun e => by omega⟩
      · exact ⟨by omega, fun e hlt => c (by omega) (lessP_trans hlt hl)⟩
  · obtain rfl : j = k := by omega
    exact ⟨Int.le_refl _, fun _ => lessP_irrefl _⟩
theorem BaI.fin {n b : Nat} (hn : n ≤ 16) {E : Nat → Nat → Bool} (hs : ∀ x y, E x y = true → E y x = true) {m : Int} (h : BaI n E (2 ^ n) b m) : LeastP (BarP n E) n b := by
  have hpos := Nat.two_pow_pos n
  rcases h with ⟨h0, _, _⟩ | ⟨h1, h2, h3⟩
  · omega
  obtain ⟨s, s1, s2⟩ := bar_ex hn hs
  have hb := bar_le hn hs h1
  have hsv := (h3 s s1).1
  unfold valB at hsv h2
  unfold BarP at s2
  have hbP : BarP n E b := by
    unfold BarP
    omega
  refine ⟨h1, hbP, fun t ht hP => ?_⟩
  have h4 := (h3 t ht).2
  unfold BarP at hP hbP
  unfold valB at h4
  exact h4 (by omega)

/-! ### The lowest bit in which two sets differ -/
theorem lex_low {a b q : Nat} (ha : a < 65536) (hb : b < 65536) (hlow : ∀ j, j < q → a.testBit j = b.testBit j) (hq : a.testBit q ≠ b.testBit q) (hlen : (bitsOf a).length = (bitsOf b).length) : lexL (bitsOf a) (bitsOf b) ↔ a.testBit q = true := by
  have key : ∀ (A B : List Nat), A.Pairwise (· < ·) → B.Pairwise (· < ·) → A.length = B.length → (∀ j, j < q → (j ∈ A ↔ j ∈ B)) → q ∈ A → q ∉ B → lexL A B := by
    intro A
    induction A with
    | nil => intro B _ _ _ _ h _; cases h
    | cons x A ih =>
      intro B hA hB hl hlow hqA hqB
      cases B with
      | nil => simp at hl
      | cons y B =>
        have hA' := List.pairwise_cons.1 hA
        have hB' := List.pairwise_cons.1 hB
        by_cases hxy : x < y
        · exact .inl hxy
        by_cases hyx : y < x
        · exfalso
          have hxq : x ≤ q := by
            rcases List.mem_cons.1 hqA with e | e
            · omega
            · have := hA'.1 q e; omega
          have : y ∈ x :: A := (hlow y (by omega)).2 (by simp)
          rcases List.mem_cons.1 this with e | e
          · omega
          · have := hA'.1 y e; omega
        obtain rfl : x = y := by omega
        refine .inr ⟨rfl, ih B hA'.2 hB'.2 (by simpa using hl) (fun j hj => ?_) ?_ (fun h => hqB (List.mem_cons_of_mem _ h))⟩
        · have := hlow j hj
          simp only [List.mem_cons] at this
          constructor
          · intro h
            rcases this.1 (.inr h) with e | e
            · have := hA'.1 j h; omega
            · exact e
          · intro h
            rcases this.2 (.inr h) with e | e
            · have := hB'.1 j h; omega
            · exact e
        · rcases List.mem_cons.1 hqA with e | e
          · exact absurd (by rw [e]; simp) hqB
          · exact e
  have ma : ∀ x, x ∈ bitsOf a ↔ a.testBit x = true := fun x => mem_bitsOf' (by omega)
  have mb : ∀ x, x ∈ bitsOf b ↔ b.testBit x = true := fun x => mem_bitsOf' (by omega)
  constructor
  · intro h
    refine Classical.byContradiction fun hn => ?_
    have hbq : b.testBit q = true := by
      cases e : b.testBit q
      · rw [e] at hq; exact absurd (by simpa using hn) hq
      · rfl
    have := key (bitsOf b) (bitsOf a) (bitsOf_rising _) (bitsOf_rising _) hlen.symm (fun j hj => by rw [ma, mb, hlow j hj]) ((mb q).2 hbq) (fun e => hn ((ma q).1 e))
    exact lexL_irrefl _ (lexL_trans h this)
  · intro h
    exact key _ _ (bitsOf_rising _) (bitsOf_rising _) hlen (fun j hj => by rw [ma, mb, hlow j hj]) ((ma q).2 h) (fun e => hq (by rw [h, (mb q).1 e]))

end Go.Proofs.YtiooindlpinjhaaDoor

/- Plain: the best bramble: the sets in the order in which they are chosen, the parts without them, the first choice of touching parts. -/
namespace Go.Proofs.YtiooindlpinjhaaDoor

/-- What is made of a list of sets by k vertices more. -/
def grO (n : Nat) : Nat → List (List Nat) → List (List Nat)
  | 0, B => B
  | k + 1, B => grO n k (B.flatMap (extS n))
theorem grO_app (n : Nat) : ∀ (k : Nat) (A B : List (List Nat)), grO n k (A ++ B) = grO n k A ++ grO n k B
  | 0, _, _ => rfl
  | k + 1, A, B => by
    show grO n k ((A ++ B).flatMap (extS n)) = _
    rw [List.flatMap_append, grO_app n k]
    rfl
theorem grO_nil (n : Nat) : ∀ k, grO n k [] = []
  | 0 => rfl
  | k + 1 => grO_nil n k
theorem grO_each (n k : Nat) : ∀ B : List (List Nat), grO n k B = B.flatMap fun o => grO n k [o]
  | [] => by rw [grO_nil]; rfl
  | o :: B => by
    rw [show o :: B = [o] ++ B from rfl, grO_app, grO_each n k B]
    rfl
theorem grO_last (n : Nat) : ∀ (k : Nat) (B : List (List Nat)), grO n (k + 1) B = (grO n k B).flatMap (extS n)
  | 0, _ => rfl
  | k + 1, B => by
    show grO n (k + 1) (B.flatMap (extS n)) = _
    rw [grO_last n k]
    rfl
theorem setsL_grO (n : Nat) : ∀ k, setsL n k = grO n k [[]]
  | 0 => rfl
  | k + 1 => by
    rw [grO_last, ← setsL_grO n k]
    rfl
/-- The sets in the order in which the program chooses: so many more to a set. -/
def visO (n m : Nat) (o : List Nat) : List (List Nat) := grO n m [o]
theorem visO_zero (n : Nat) (o : List Nat) : visO n 0 o = [o] := rfl
theorem visO_succ (n m : Nat) (o : List Nat) : visO n (m + 1) o = ((List.range n).filter fun v => decide (lastp o ≤ v)).flatMap fun v => visO n m (o ++ [v]) := by
  unfold visO
  show grO n m ([o].flatMap (extS n)) = _
  rw [List.flatMap_singleton, grO_each, extS, List.flatMap_map]
/-- Those whose next vertex is below v. -/
def visT (n m : Nat) (o : List Nat) (v : Nat) : List (List Nat) := ((List.range v).filter fun v => decide (lastp o ≤ v)).flatMap fun v => visO n m (o ++ [v])
theorem visT_start (n m : Nat) (o : List Nat) {v : Nat} (h : v ≤ lastp o) : visT n m o v = [] := by
  unfold visT
  have : ((List.range v).filter fun v => decide (lastp o ≤ v)) = [] := by
    rw [List.filter_eq_nil_iff]
    intro x hx
    have := List.mem_range.1 hx
    simp
    omega
  rw [this]
  rfl
theorem visT_step (n m : Nat) (o : List Nat) {v : Nat} (h : lastp o ≤ v) : visT n m o (v + 1) = visT n m o v ++ visO n m (o ++ [v]) := by
  unfold visT
  rw [List.range_succ, List.filter_append, List.flatMap_append]
  congr 1
  rw [List.filter_cons, if_pos (decide_eq_true h)]
  simp
theorem visO_none (n : Nat) : ∀ (m : Nat) (o : List Nat), n < lastp o + m → m ≠ 0 → visO n m o = []
  | 0, _, _, h => absurd rfl h
  | m + 1, o, h, _ => by
    rw [visO_succ, List.flatMap_eq_nil_iff]
    intro v hv
    obtain ⟨h1, h2⟩ := List.mem_filter.1 hv
    have h1 := List.mem_range.1 h1
    simp only [decide_eq_true_eq] at h2
    by_cases hm : m = 0
    · subst hm; omega
    · exact visO_none n m _ (by rw [lastp_snoc]; omega) hm
theorem visT_end {n m v : Nat} {o : List Nat} (h : n < v + (m + 1)) (hv : v ≤ n) (hm : lastp o ≤ v) : visT n m o v = visO n (m + 1) o := by
  rw [visO_succ]
  show visT n m o v = visT n m o n
  have key : ∀ d, v + d ≤ n → visT n m o (v + d) = visT n m o v := by
    intro d
    induction d with
    | zero => exact fun _ => rfl
    | succ d ih =>
      intro hd
      rw [show v + (d + 1) = (v + d) + 1 from rfl, visT_step n m o (by omega), ih (by omega)]
      by_cases hm0 : m = 0
      · subst hm0; omega
      · rw [visO_none n m _ (by rw [lastp_snoc]; omega) hm0, List.append_nil]
  have := key (n - v) (by omega)
  rw [show v + (n - v) = n by omega] at this
  exact this.symm

/-- Who is left without a list's vertices. -/
def restO (n : Nat) (o : List Nat) : List Nat := (List.range n).filter fun v => decide (v ∉ o)
theorem mem_restO {n x : Nat} {o : List Nat} : x ∈ restO n o ↔ x < n ∧ x ∉ o := by simp [restO]
theorem restO_rising (n : Nat) (o : List Nat) : (restO n o).Pairwise (· < ·) := List.Pairwise.filter _ List.pairwise_lt_range
/-- The parts of a list. -/
noncomputable def prtK (E : Nat → Nat → Bool) (K : List Nat) : List (List Nat) := Classical.choose (parts_exB E K.length K (Nat.le_refl _))
theorem prtK_parts (E : Nat → Nat → Bool) (K : List Nat) : Parts E K (prtK E K) := Classical.choose_spec (parts_exB E K.length K (Nat.le_refl _))
theorem prtK_eq {E : Nat → Nat → Bool} {K : List Nat} {ps : List (List Nat)} (h : Parts E K ps) : ps = prtK E K := parts_det h (prtK_parts E K)
/-- What one may choose from. -/
noncomputable def choL (n : Nat) (E : Nat → Nat → Bool) (Z : List (List Nat)) : List (List (List Nat)) := Z.map fun o => prtK E (restO n o)
theorem choL_length (n : Nat) (E : Nat → Nat → Bool) (Z : List (List Nat)) : (choL n E Z).length = Z.length := by simp [choL]
theorem choL_at {n : Nat} {E : Nat → Nat → Bool} {Z : List (List Nat)} {k : Nat} (h : k < Z.length) : (choL n E Z).getD k [] = prtK E (restO n Z[k]) := by simp [choL, h]
theorem prtK_in {n : Nat} {E : Nat → Nat → Bool} {o p : List Nat} (h : p ∈ prtK E (restO n o)) : p.Pairwise (· < ·) ∧ (∀ x ∈ p, x < n) ∧ p ≠ [] := by
  have hp := prtK_parts E (restO n o)
  refine ⟨parts_ris hp (restO_rising n o) p h, fun x hx => (mem_restO.1 (parts_in hp p h x hx)).1, ?_⟩
  exact (parts_conn hp p h).1

/-- The first choice of one of each that all touch. -/
noncomputable def pickN (Tch : List Nat → List Nat → Prop) (C : List (List (List Nat))) : Nat → List (List Nat) → Option (List (List Nat))
  | 0, ch => some ch
  | r + 1, ch => (C.getD ch.length []).findSome? fun p => if dec (∀ t ∈ ch, Tch t p) = true then pickN Tch C r (ch ++ [p]) else none
theorem pickN_len {Tch : List Nat → List Nat → Prop} {C : List (List (List Nat))} : ∀ (r : Nat) (ch L : List (List Nat)), pickN Tch C r ch = some L → L.length = ch.length + r ∧ ∃ t, L = ch ++ t
  | 0, ch, L, h => by
    have : ch = L := Option.some.inj h
    subst this
    exact ⟨rfl, [], by simp⟩
  | r + 1, ch, L, h => by
    obtain ⟨p, _, hp⟩ := List.exists_of_findSome?_eq_some h
    by_cases e : dec (∀ t ∈ ch, Tch t p) = true
    · rw [if_pos e] at hp
      obtain ⟨h1, t, h2⟩ := pickN_len r _ L hp
      rw [List.length_append, List.length_singleton] at h1
      exact ⟨by omega, p :: t, by rw [h2]; simp⟩
    · rw [if_neg e] at hp
      cases hp
/-- Each once, in the order of the first. -/
def ddpL : List (List Nat) → List (List Nat) → List (List Nat)
  | out, [] => out
  | out, p :: l => ddpL (if p ∈ out then out else out ++ [p]) l
theorem ddpL_snoc : ∀ (l out : List (List Nat)) (p : List Nat), ddpL out (l ++ [p]) = if p ∈ ddpL out l then ddpL out l else ddpL out l ++ [p]
  | [], out, p => rfl
  | q :: l, out, p => ddpL_snoc l _ p
theorem ddpL_mem : ∀ (l out : List (List Nat)) (p : List Nat), p ∈ ddpL out l → p ∈ out ∨ p ∈ l
  | [], out, p, h => .inl h
  | q :: l, out, p, h => by
    rcases ddpL_mem l _ p h with h | h
    · by_cases e : q ∈ out
      · rw [if_pos e] at h; exact .inl h
      · rw [if_neg e] at h
        rcases List.mem_append.1 h with h | h
        · exact .inl h
        · rw [List.mem_singleton] at h; rw [h]; exact .inr (List.mem_cons_self ..)
    · exact .inr (List.mem_cons_of_mem _ h)
theorem ddpL_le : ∀ (l out : List (List Nat)), (ddpL out l).length ≤ out.length + l.length
  | [], out => Nat.le_refl _
  | q :: l, out => by
    have := ddpL_le l (if q ∈ out then out else out ++ [q])
    have e : ddpL out (q :: l) = ddpL (if q ∈ out then out else out ++ [q]) l := rfl
    rw [e, List.length_cons]
    by_cases h : q ∈ out
    · rw [if_pos h] at this ⊢; omega
    · rw [if_neg h] at this ⊢; rw [List.length_append, List.length_singleton] at this; omega

end Go.Proofs.YtiooindlpinjhaaDoor

/- Walk: the program's parts of a set. -/
namespace Go.Proofs.YtiooindlpinjhaaDoor
open Go.RowKit

theorem ty_vsets : SlTy Tryd.prog 66 71 (.int .u32 0) 1 4 := ⟨Tryd.underlying66, by kernel_rfl, rfl, by decide, by decide⟩

theorem Tab.grownP {w w' : World} {r : Option Nat} (h : Tab w) (hg : w.grownBy w' r) (hr : some 0 ≠ r) : Tab w' := fun j hj => hg.cell (a := ⟨_, j, none⟩) (h j hj) hr

/-- Lists, as masks. -/
def mskL (ps : List (List Nat)) : List Nat := ps.map fun l => mask (natInts l)
theorem mskL_snoc (ps : List (List Nat)) (l : List Nat) : mskL (ps ++ [l]) = mskL ps ++ [mask (natInts l)] := by simp [mskL]
theorem mskL_length (ps : List (List Nat)) : (mskL ps).length = ps.length := by simp [mskL]

structure PtI (w wr : World) (x ov : Value) (n : Nat) (E : Nat → Nat → Bool) (W s : Nat) (os : List (List Nat)) : Prop where
  s16 : s < 65536
  sub : ∀ i, s.testBit i = true → i < n
  net : NE wr x n E
  own : wr.ownsRow w.heap.size 71 1 ov os.length ((mskL os).map u32v)
  bel : Below w.heap.size w wr
  on : PartOn E (bitsOf W) os (bitsOf s)
  cnt : os.length + (bitsOf s).length ≤ 32
  lt : ∀ l ∈ os, l.Pairwise (· < ·) ∧ ∀ i ∈ l, i < n
  tab : Tab wr
  tpos : 0 < w.heap.size

set_option maxRecDepth 100000 in
set_option maxHeartbeats 4000000 in
theorem partsOf_any (x : Value) (y : Int) (n : Nat) (E : Nat → Nat → Bool) (W : Nat) (hy : y = W) (hW : W < 65536) (hWn : ∀ i, W.testBit i = true → i < n) (w : World) (hx : NE w x n E) (hT : Tab w) :
    Calls Tryd.prog 93 #[x, .int .u32 y] w fun e w' => ∃ (ov : Value) (ps : List (List Nat)), e = .returned ov ∧ Parts E (bitsOf W) ps ∧
      w'.ownsRow w.heap.size 71 1 ov ps.length ((mskL ps).map u32v) ∧ ps.length ≤ 32 ∧ (∀ l ∈ ps, l.Pairwise (· < ·) ∧ ∀ i ∈ l, i < n) ∧ Tab w' ∧ Below w.heap.size w w' := by
  subst hy
  have hle := hx.le
  have hbA := below_alloc w (.cells #[] 71)
  have START := Lib.hid (show PtI w (w.alloc (.cells #[] 71)) x (.slice (some ⟨w.heap.size, 0, none⟩) 0 0) n E W W [] from
    { s16 := hW, sub := hWn, net := hx.next hbA, own := ownsRow_empty _ _ _, bel := hbA, on := partOn_start _ _, cnt := by have := bitsOf_length W; simp; omega, lt := by simp, tab := hT.keep hbA, tpos := hT.pos })
  obtain ⟨xp, xc, rfl⟩ : ∃ p c, x = .slice p n c := by obtain ⟨p, c, e, _⟩ := hx.sl; exact ⟨p, c, e⟩
  have HX := Lib.hid hx
  clear hbA hx hT hWn
  go_enter Tryd.func93, Tryd.ntmps93
  go_wp2
  go_loopw [1, 5] (fun s1 s5 wr => ∃ (s : Nat) (os : List (List Nat)), s1 = .int .u32 (s : Int) ∧ PtI w wr (.slice xp n xc) s5 n E W s os) (fun s1 _ _ => (bitsOf (intOf s1).toNat).length)
  case atStart => exact ⟨W, [], rfl, START.out⟩
  case round =>
    clear START
    obtain ⟨s, os, rfl, hI⟩ := hrel
    obtain ⟨op, oc, rfl⟩ : ∃ p c, u5 = .slice p os.length c := by
      rcases hI.own.2 with ⟨h1, h2⟩ | ⟨g1, cap, cur, h1, _⟩
      · exact ⟨none, 0, by rw [h1, h2]⟩
      · exact ⟨_, _, h1⟩
    have HI := Lib.hid hI
    have hs16 := hI.s16
    have hcnt := hI.cnt
    clear hI
    by_cases h0 : s = 0
    · have h0' : ((s : Int) != 0) = false := by simp [h0]
      have H0 := Lib.hid h0
      clear h0
      go_wp2
      go_ret
      have hon := HI.out.on
      rw [H0.out, bitsOf_zero] at hon
      exact ⟨_, os, rfl, partOn_stop hon, HI.out.own, by omega, HI.out.lt, HI.out.tab, HI.out.bel⟩
    · have h0' : ((s : Int) != 0) = true := by simp; omega
      have hst := bitsOf_step s h0 (by omega)
      obtain ⟨hub, hu32, _⟩ := testBit_ctz s h0 (by omega)
      have H0 := Lib.hid h0
      obtain ⟨u, hu⟩ : ∃ u, u = Lib.ctz 32 s := ⟨_, rfl⟩
      rw [← hu] at hst hub hu32
      have HU := Lib.hid hu
      have HST := Lib.hid hst
      have HUB := Lib.hid hub
      have hos : os.length < 1000000000 := by omega
      have hown := HI.out.own
      have htab := HI.out.tab
      clear h0 hu hst hub
      go_wp2_with (first
        | (at_builtin; refine wpList_app1 ty_vsets rfl rfl rfl ho4 rfl rfl hos (by have := HI.out.bel.size; have := hb4.size; omega) ?_; intro v' w5 hown' hg _)
        | (go_at_call 137; refine (reach_any _ _ _ n E u s rfl rfl hs16 HI.out.sub HUB.out _ HI.out.net htab).mono ?_; rintro e w4 ⟨m, rfl, hm16, hmb, hb4⟩; have ho4 := ownsRow_below hown hb4; have HM := Lib.hid hmb; have hmi : ((m : Nat) : Int) < 4294967296 := (by omega))
        | (go_at_call 138; refine (least_any _ s rfl H0.out (by omega) _ htab).mono ?_; rintro e w3 ⟨he3, rfl⟩; rw [← HU.out] at he3; subst he3))
      have hand : bits BinOp.andNot IntKind.u32 (s : Int) (m : Int) = ((sub s m : Nat) : Int) := u32_andNot_nat s m (by omega) (by omega)
      have hM' : m = mask (natInts (partL E (bitsOf s) u)) := Nat.eq_of_testBit_eq fun i => by
        rw [Bool.eq_iff_iff, mask_bit, decide_eq_true_eq]
        exact HM.out i
      have hrest : bitsOf (sub s m) = restL E (bitsOf s) u := by
        refine rising_ext _ _ (bitsOf_rising _) (restL_rising (bitsOf_rising _) u) fun i => ?_
        rw [mem_left (sub_lt16 _ _ hs16), testBit_sub s m (by omega) (by omega), mem_restL, mem_left hs16, Bool.and_eq_true, Bool.not_eq_true', Bool.eq_false_iff]
        constructor
        · rintro ⟨h1, h2⟩
          exact ⟨h1, fun hr => h2 ((HM.out i).2 (mem_partL.2 ⟨(mem_left hs16).2 h1, hr⟩))⟩
        · rintro ⟨h1, h2⟩
          exact ⟨h1, fun hm => h2 (mem_partL.1 ((HM.out i).1 hm)).2⟩
      have hlt := restL_lt (E := E) (L := bitsOf s) (u := u) ((mem_left hs16).2 HUB.out)
      have hon := HI.out.on
      rw [HST.out] at hon
      have hon2 := partOn_step hon
      rw [← HST.out, ← hrest] at hon2
      rw [← hrest] at hlt
      have hb5 := below_grown (HI.out.bel.trans (hb4.mono HI.out.bel.size)) ho4 hg (Nat.le_refl _) (by have := HI.out.bel.size; have := hb4.size; omega)
      go_roundw
      case rel =>
        refine ⟨sub s m, os ++ [partL E (bitsOf s) u], val_int hand, ?_⟩
        exact { s16 := sub_lt16 _ _ hs16
                sub := fun i hi => HI.out.sub i (by rw [testBit_sub s m (by omega) (by omega)] at hi; simp only [Bool.and_eq_true] at hi; exact hi.1)
                net := HX.out.next hb5
                own := by rw [mskL_snoc, ← hM', List.map_append, List.length_append]; exact hown'
                bel := hb5
                on := hon2
                cnt := by rw [List.length_append]; simp; omega
                lt := fun l hl => by
                  rcases List.mem_append.1 hl with h | h
                  · exact HI.out.lt l h
                  · simp only [List.mem_singleton] at h
                    subst h
                    exact ⟨partL_rising (bitsOf_rising _) u, fun i hi => HI.out.sub i ((mem_left hs16).1 (mem_partL.1 hi).1)⟩
                tab := (htab.keep hb4).grownP hg (fun e => by
                  have := (ho4.lt _ e.symm).1
                  have := HI.out.tpos
                  omega)
                tpos := HI.out.tpos }
      case measure =>
        rw [hand]
        simp [intOf]
        omega

end Go.Proofs.YtiooindlpinjhaaDoor
