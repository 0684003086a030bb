/- Plain: who is not folded away has a model of the full graph of four, and who is has none. -/
import Derived.Test.YtiooindlpinjhaaDoorBbQ37
import Derived.Test.YtiooindlpinjhaaDoorBbQ7
import Derived.Test.YtiooindlpinjhaaDoorBbQ28
import Derived.Test.YtiooindlpinjhaaDoorBbQ9
import Derived.Test.YtiooindlpinjhaaDoorBbQ27
namespace Go.Proofs.YtiooindlpinjhaaDoor

/-! ### Six vertices at most -/
def packVd (f : Nat → Bool) : Nat → Nat
  | 0 => 0
  | k + 1 => packVd f k ||| (if f k = true then 2 ^ k else 0)
theorem packVd_bit (f : Nat → Bool) (i : Nat) : ∀ k, (packVd f k).testBit i = (decide (i < k) && f i)
  | 0 => by simp [packVd]
  | k + 1 => by
    rw [packVd, Nat.testBit_or, packVd_bit f i k]
    by_cases e : i = k
    · subst e
      by_cases h : f i = true
      · simp [h]
      · simp [h]
    · have h1 : (if f k = true then 2 ^ k else 0).testBit i = false := by
        split
        · exact Nat.testBit_two_pow_of_ne (Ne.symm e)
        · exact Nat.zero_testBit i
      rw [h1, Bool.or_false]
      congr 1
      rw [decide_eq_decide]
      omega
theorem packVd_lt (f : Nat → Bool) : ∀ k, packVd f k < 2 ^ k
  | 0 => by simp [packVd]
  | k + 1 => by
    refine Nat.or_lt_two_pow (Nat.lt_of_lt_of_le (packVd_lt f k) (Nat.pow_le_pow_right (by omega) (by omega))) ?_
    split
    · exact Nat.pow_lt_pow_right (by omega) (by omega)
    · exact Nat.pow_pos (by omega)
def prsVd : List (Nat × Nat) := [(0, 1), (0, 2), (1, 2), (0, 3), (1, 3), (2, 3), (0, 4), (1, 4), (2, 4), (3, 4), (0, 5), (1, 5), (2, 5), (3, 5), (4, 5)]
theorem prsVd_at : ∀ v, v < 6 → ∀ u, u < v → bitVd u v < 15 ∧ prsVd.getD (bitVd u v) (0, 0) = (u, v) := by decide
theorem bitVd_inj : ∀ v, v < 6 → ∀ a, a < 6 → ∀ x, x < 6 → (a ≠ v ∧ x ≠ v ∧ bitVd v a = bitVd v x) → a = x := by decide
theorem degVd_bit : ∀ v, v < 6 → ∀ u, u < 6 → u ≠ v → (degVd.getD v 0).testBit (bitVd v u) = true := by decide
theorem degVd_len : degVd.length = 6 := by decide
theorem degVd_of : ∀ v, v < 6 → ∀ k, k < 15 → (degVd.getD v 0).testBit k = true → ∃ u, u < 6 ∧ u ≠ v ∧ bitVd v u = k := by decide
theorem degVd_lt : ∀ v, v < 6 → degVd.getD v 0 < 2 ^ 15 := by decide
theorem fewVd_bits {x : Nat} (h : fewVd x = true) : (∃ k, x.testBit k = true) ∧ ∃ i j, ∀ k, x.testBit k = true → k = i ∨ k = j := by
  unfold fewVd at h
  rw [Bool.and_eq_true] at h
  obtain ⟨h1, h2⟩ := h
  have hx : x ≠ 0 := by simpa using h1
  refine ⟨Nat.exists_testBit_of_ne_zero hx, x.log2, (x ^^^ 2 ^ x.log2).log2, fun k hk => ?_⟩
  by_cases e : k = x.log2
  · exact .inl e
  · have hy : (x ^^^ 2 ^ x.log2).testBit k = true := by
      rw [Nat.testBit_xor, Nat.testBit_two_pow_of_ne (Ne.symm e), hk]; rfl
    generalize x ^^^ 2 ^ x.log2 = y at h2 hy
    rw [Bool.or_eq_true] at h2
    rcases h2 with h2 | h2
    · have : y = 0 := by simpa using h2
      rw [this, Nat.zero_testBit] at hy; cases hy
    · have h3 : y ^^^ 2 ^ y.log2 = 0 := by simpa using h2
      refine .inr (Classical.byContradiction fun e2 => ?_)
      have := congrArg (Nat.testBit · k) h3
      simp only [Nat.testBit_xor, Nat.zero_testBit, Nat.testBit_two_pow_of_ne (Ne.symm e2), hy] at this
      cases this

/-- A graph of six vertices at most with an edge, in which nobody has just one or two neighbours. -/
theorem four_minor {R : Nat → Nat → Prop} (hs : ∀ x y, R x y → R y x) (hi : ∀ x, ¬ R x x) (h6 : ∀ x y, R x y → x < 6) (hsome : ∃ x y, R x y) (hfew : ∀ v, (∃ u, R v u) → ¬ ∃ a b, ∀ x, R v x → x = a ∨ x = b) :
    ∃ B, KM R 4 B := by
  classical
  let f : Nat → Bool := fun i => decide (R (prsVd.getD i (0, 0)).1 (prsVd.getD i (0, 0)).2)
  have hlt := packVd_lt f 15
  have hbit : ∀ x y, x < 6 → y < 6 → x ≠ y → ((packVd f 15).testBit (bitVd x y) = true ↔ R x y) := by
    have key : ∀ u v, v < 6 → u < v → ((packVd f 15).testBit (bitVd u v) = true ↔ R u v) := fun u v hv huv => by
      obtain ⟨h1, h2⟩ := prsVd_at v hv u huv
      rw [packVd_bit, Bool.and_eq_true, decide_eq_true_eq]
      show _ ∧ decide (R (prsVd.getD (bitVd u v) (0, 0)).1 (prsVd.getD (bitVd u v) (0, 0)).2) = true ↔ _
      rw [h2, decide_eq_true_eq]
      exact ⟨fun h => h.2, fun h => ⟨h1, h⟩⟩
    intro x y hx hy hxy
    by_cases c : x < y
    · exact key x y hy c
    · rw [bitVd_comm, key y x hx (by omega)]
      exact ⟨hs _ _, hs _ _⟩
  generalize packVd f 15 = c at hlt hbit
  have hall := allVd_yes 15 0 chkVd_all c hlt
  rw [Nat.zero_mul, Nat.zero_add] at hall
  unfold chkVd at hall
  rw [Bool.or_eq_true, Bool.or_eq_true] at hall
  rcases hall with (hall | hall) | hall
  · exfalso
    rw [List.any_eq_true] at hall
    obtain ⟨m, hm, hfe⟩ := hall
    obtain ⟨v, hv, rfl⟩ := List.mem_iff_getElem.1 hm
    rw [degVd_len] at hv
    have em : degVd[v]'(by rw [degVd_len]; exact hv) = degVd.getD v 0 := by simp [degVd_len, hv]
    rw [em] at hfe
    obtain ⟨⟨k, hk⟩, i, j, hij⟩ := fewVd_bits hfe
    rw [Nat.testBit_and, Bool.and_eq_true] at hk
    have hk15 : k < 15 := by
      refine Classical.byContradiction fun hn => ?_
      have := Nat.testBit_lt_two_pow (x := c) (i := k) (Nat.lt_of_lt_of_le hlt (Nat.pow_le_pow_right (by omega) (by omega)))
      rw [hk.1] at this; cases this
    obtain ⟨u, hu, huv, rfl⟩ := degVd_of v hv k hk15 hk.2
    refine hfew v ⟨u, (hbit v u hv hu (Ne.symm huv)).1 hk.1⟩ ⟨if h : ∃ a, a < 6 ∧ a ≠ v ∧ bitVd v a = i then h.choose else 0, if h : ∃ a, a < 6 ∧ a ≠ v ∧ bitVd v a = j then h.choose else 0, fun x hx => ?_⟩
    have hxv : x ≠ v := fun e => hi v (e ▸ hx)
    have hx6 := h6 _ _ (hs _ _ hx)
    have hb := hij (bitVd v x) (by rw [Nat.testBit_and, (hbit v x hv hx6 (Ne.symm hxv)).2 hx, degVd_bit v hv x hx6 hxv]; rfl)
    rcases hb with rfl | rfl
    · left
      have h : ∃ a, a < 6 ∧ a ≠ v ∧ bitVd v a = bitVd v x := ⟨x, hx6, hxv, rfl⟩
      rw [dif_pos h]
      exact (bitVd_inj v hv _ h.choose_spec.1 x hx6 ⟨h.choose_spec.2.1, hxv, h.choose_spec.2.2⟩).symm
    · right
      have h : ∃ a, a < 6 ∧ a ≠ v ∧ bitVd v a = bitVd v x := ⟨x, hx6, hxv, rfl⟩
      rw [dif_pos h]
      exact (bitVd_inj v hv _ h.choose_spec.1 x hx6 ⟨h.choose_spec.2.1, hxv, h.choose_spec.2.2⟩).symm
  · exfalso
    have h0 : c = 0 := by simpa using hall
    obtain ⟨x, y, hxy⟩ := hsome
    have := (hbit x y (h6 _ _ hxy) (h6 _ _ (hs _ _ hxy)) fun e => hi y (e ▸ hxy)).2 hxy
    rw [h0, Nat.zero_testBit] at this
    cases this
  · rw [condVd_eq, List.any_map, List.any_eq_true] at hall
    obtain ⟨M, hM, hc⟩ := hall
    have hsh := List.all_eq_true.1 modsVd_ok M hM
    simp only [shapeVd, Bool.and_eq_true, List.all_eq_true, beq_iff_eq, decide_eq_true_eq] at hsh
    obtain ⟨⟨⟨hM4, hlen⟩, hnd⟩, hin⟩ := hsh
    have hc' : ∀ m ∈ condsVd M, c &&& m ≠ 0 := fun m hm => by
      have := List.all_eq_true.1 hc m hm
      simpa using this
    have hat : ∀ i, i < 4 → M.getD i [] ∈ M := fun i hi => by
      rw [List.getD_eq_getElem?_getD, List.getElem?_eq_getElem (by omega)]
      exact List.getElem_mem _
    have hhit : ∀ A B, (∀ x ∈ A, x < 6) → (∀ x ∈ B, x < 6) → (∀ x ∈ A, ∀ y ∈ B, x ≠ y) → c &&& joinVd A B ≠ 0 → ∃ x ∈ A, ∃ y ∈ B, R x y := fun A B hA hB hd h => by
      obtain ⟨x, hx, y, hy, ht⟩ := joinVd_hit h
      exact ⟨x, hx, y, hy, (hbit x y (hA x hx) (hB y hy) (hd x hx y hy)).1 ht⟩
    have hdis : ∀ i, i < 4 → ∀ j, j < 4 → ∀ x, x ∈ M.getD i [] → x ∈ M.getD j [] → i = j := by
      have hp := (List.pairwise_flatten.1 hnd).2
      rw [List.pairwise_iff_getElem] at hp
      have key : ∀ i j, i < j → j < 4 → ∀ x, x ∈ M.getD i [] → x ∈ M.getD j [] → False := fun i j hij hj x h1 h2 => by
        have := hp i j (by omega) (by omega) hij
        rw [List.getD_eq_getElem?_getD, List.getElem?_eq_getElem (by omega)] at h1 h2
        exact this x h1 x h2 rfl
      intro i hi j hj x h1 h2
      rcases Nat.lt_trichotomy i j with h | h | h
      · exact (key i j h hj x h1 h2).elim
      · exact h
      · exact (key j i h hi x h2 h1).elim
    refine ⟨fun i x => x ∈ M.getD i [], fun i hi => ?_, fun i hi P hp hq => ?_, hdis, fun i hi j hj hij => ?_⟩
    · have := (hlen _ (hat i hi)).1
      exact List.exists_mem_of_length_pos this
    · obtain ⟨a, ha, hpa⟩ := hp
      obtain ⟨b, hb, hpb⟩ := hq
      have hB := hlen _ (hat i hi)
      have hBin := hin _ (hat i hi)
      have hw : ∀ x ∈ M.getD i [], ∃ y ∈ M.getD i [], y ≠ x ∧ R x y := fun x hx => by
        have h2 : ¬ (M.getD i []).length ≤ 1 := fun hle => by
          have := sub_len [a, b] (M.getD i []) (by
            simp only [List.nodup_cons, List.mem_singleton, List.not_mem_nil, not_false_eq_true, List.nodup_nil, and_true]
            exact fun e => hpb (e ▸ hpa)) (by
            intro z hz
            rcases List.mem_cons.1 hz with rfl | hz
            · exact ha
            · obtain rfl : z = b := by simpa using hz
              exact hb)
          have this2 : 2 ≤ (M.getD i []).length := this
          omega
        have h3 := hc' (joinVd [x] ((M.getD i []).filter (· != x))) (List.mem_append_left _ (List.mem_flatMap.2 ⟨_, hat i hi, by
          unfold wholeVd
          rw [if_neg h2]
          exact List.mem_map.2 ⟨x, hx, rfl⟩⟩))
        obtain ⟨x', hx', y, hy, r⟩ := hhit _ _ (fun z hz => by
          obtain rfl : z = x := by simpa using hz
          exact hBin z hx) (fun z hz => hBin z (List.mem_filter.1 hz).1) (fun z hz y hy e => by
          obtain rfl : z = x := by simpa using hz
          subst e
          have := (List.mem_filter.1 hy).2
          simp at this) h3
        obtain rfl : x' = x := by simpa using hx'
        have hyx := (List.mem_filter.1 hy).2
        exact ⟨y, (List.mem_filter.1 hy).1, by simpa using hyx, r⟩
      refine Classical.byContradiction fun hno => ?_
      have hno' : ∀ x ∈ M.getD i [], ∀ y ∈ M.getD i [], R x y → P x → P y := fun x hx y hy r hPx => Classical.byContradiction fun hPy => hno ⟨x, y, hx, hy, hPx, hPy, r⟩
      obtain ⟨a', ha', haa, ra⟩ := hw a ha
      obtain ⟨b', hb', hbb, rb⟩ := hw b hb
      have hpa' := hno' a ha a' ha' ra hpa
      have hpb' : ¬ P b' := fun h => hpb (hno' b' hb' b hb (hs _ _ rb) h)
      have := sub_len [a, a', b, b'] (M.getD i []) (by
        have e1 : a ≠ b := fun e => hpb (e ▸ hpa)
        have e2 : a ≠ b' := fun e => hpb' (e ▸ hpa)
        have e3 : a' ≠ b := fun e => hpb (e ▸ hpa')
        have e4 : a' ≠ b' := fun e => hpb' (e ▸ hpa')
        simp [Ne.symm haa, Ne.symm hbb, e1, e2, e3, e4]) (by
        intro z hz
        simp only [List.mem_cons, List.not_mem_nil, or_false] at hz
        rcases hz with rfl | rfl | rfl | rfl
        · exact ha
        · exact ha'
        · exact hb
        · exact hb')
      have this2 : 4 ≤ (M.getD i []).length := this
      omega
    · have key : ∀ i j, i < 4 → j < i → ∃ x y, x ∈ M.getD i [] ∧ y ∈ M.getD j [] ∧ R x y := fun i j hi hj => by
        obtain ⟨x, hx, y, hy, r⟩ := hhit (M.getD i []) (M.getD j []) (fun z hz => hin _ (hat i hi) z hz) (fun z hz => hin _ (hat j (by omega)) z hz) (fun x hx y hy e => by
          subst e
          have := hdis i hi j (by omega) x hx hy
          omega) (hc' _ (List.mem_append_right _ (List.mem_flatMap.2 ⟨i, List.mem_range.2 hi, List.mem_map.2 ⟨j, List.mem_range.2 hj, rfl⟩⟩)))
        exact ⟨x, y, hx, hy, r⟩
      rcases Nat.lt_or_gt_of_ne hij with h | h
      · obtain ⟨x, y, hx, hy, r⟩ := key j i hj h
        exact ⟨y, x, hy, hx, hs _ _ r⟩
      · exact key i j hi h

/-! ### Folding -/
theorem mem_foldG {g : List (List Int)} (hg : GOk g) {v : Nat} (hv : v < g.length) (h2 : (row g v).length ≤ 2) {u : Nat} (hu : u < g.length) (x : Int) :
    x ∈ row (foldG g (atRow v (row g v))) u ↔ ((u : Int) ≠ v ∧ x ≠ v ∧ x ∈ row g u) ∨ (0 ≤ (atRow (v : Int) (row g v)).B ∧ (((u : Int) = (atRow (v : Int) (row g v)).A ∧ x = (atRow (v : Int) (row g v)).B) ∨ ((u : Int) = (atRow (v : Int) (row g v)).B ∧ x = (atRow (v : Int) (row g v)).A))) := by
  rw [row_foldG g _ hu]
  obtain ⟨hs, hirr⟩ := hg.sets v hv
  obtain ⟨hV, hAB⟩ := atRow_cases (v : Int) hs.2 h2 (fun x hx => (hs.1 x hx).1)
  have hA : 0 ≤ (atRow (v : Int) (row g v)).B → (atRow (v : Int) (row g v)).A ∈ row g v ∧ (atRow (v : Int) (row g v)).B ∈ row g v ∧ (atRow (v : Int) (row g v)).A ≠ (atRow (v : Int) (row g v)).B := by
    intro h
    rcases hAB with ⟨hB, _⟩ | ⟨h1, h3, _, _, h5⟩
    · omega
    · exact ⟨h1, h3, by omega⟩
  generalize hf : atRow (v : Int) (row g v) = f at *
  have hA1 : 0 ≤ f.B → (0 ≤ f.A ∧ f.A < g.length) ∧ (0 ≤ f.B ∧ f.B < g.length) ∧ f.A ≠ v ∧ f.B ≠ v ∧ f.A ≠ f.B := by
    intro h
    obtain ⟨a1, a2, a3⟩ := hA h
    exact ⟨hs.1 _ a1, hs.1 _ a2, fun e => hirr (e ▸ a1), fun e => hirr (e ▸ a2), a3⟩
  have hmem : ∀ u, u < g.length → ∀ x, x ∈ foldRow g f u ↔ ((u : Int) ≠ v ∧ x ≠ v ∧ x ∈ row g u) ∨ (0 ≤ f.B ∧ (((u : Int) = f.A ∧ x = f.B) ∨ ((u : Int) = f.B ∧ x = f.A))) := by
    intro u hu x
    have k1 : ∀ x, x ∈ fr1 g f u ↔ ((u : Int) ≠ v ∧ x ≠ v ∧ x ∈ row g u) := by
      intro x
      by_cases e : (u : Int) = f.V
      · rw [fr1_yes e]; rw [hV] at e; simp [e]
      · rw [fr1_no e, mem_lessL]; rw [hV] at e ⊢; simp [e]; exact and_comm
    have k2 : ∀ x, x ∈ fr2 g f u ↔ ((u : Int) ≠ v ∧ x ≠ v ∧ x ∈ row g u) ∨ (0 ≤ f.B ∧ (u : Int) = f.A ∧ x = f.B) := by
      intro x
      by_cases e : (u : Int) = f.A ∧ 0 ≤ f.B
      · rw [fr2_yes e.1 e.2, mem_intoL, k1]; simp [e.1, e.2]
      · rw [fr2_no e, k1]
        constructor
        · exact .inl
        · rintro (h | h)
          · exact h
          · exact absurd ⟨h.2.1, h.1⟩ e
    by_cases e : (u : Int) = f.B
    · rw [foldRow_yes e, mem_intoL, k2]
      have hB : 0 ≤ f.B := by omega
      have := (hA1 hB).2.2.2.2
      constructor
      · rintro ((h | h) | h)
        · exact .inl h
        · exact absurd (h.2.1.symm.trans e) this
        · exact .inr ⟨hB, .inr ⟨e, h⟩⟩
      · rintro (h | ⟨_, h | h⟩)
        · exact .inl (.inl h)
        · exact absurd (h.1.symm.trans e) this
        · exact .inr h.2
    · rw [foldRow_no e, k2]
      constructor
      · rintro (h | h)
        · exact .inl h
        · exact .inr ⟨h.1, .inl h.2⟩
      · rintro (h | ⟨h0, h | h⟩)
        · exact .inl h
        · exact .inr ⟨h0, h⟩
        · exact absurd h.1 e
  exact hmem u hu x

/-- The neighbours of a graph. -/
def adjR (g : List (List Int)) : Nat → Nat → Prop := fun x y => (y : Int) ∈ row g x
theorem adjR_sym {g : List (List Int)} (hg : GOk g) (x y : Nat) (h : adjR g x y) : adjR g y x := by
  have h' : (y : Int) ∈ row g x := h
  have := ofG_sym hg x y (decide_eq_true h')
  show (x : Int) ∈ row g y
  exact of_decide_eq_true this
theorem adjR_irr {g : List (List Int)} (hg : GOk g) (x : Nat) : ¬ adjR g x x := fun h => by
  have := ofG_irr hg x
  rw [ofG, decide_eq_false_iff_not] at this
  exact this h
theorem adjR_lt {g : List (List Int)} (hg : GOk g) {x y : Nat} (h : adjR g x y) : x < g.length := by
  refine Classical.byContradiction fun hn => ?_
  unfold adjR at h
  rw [row_out hn] at h
  cases h
theorem adjR_fold {g : List (List Int)} (hg : GOk g) {v : Nat} (hv : v < g.length) (h2 : (row g v).length ≤ 2) (x y : Nat) : adjR (foldG g (atRow v (row g v))) x y ↔ goneR (adjR g) v x y := by
  obtain ⟨hs, hirr⟩ := hg.sets v hv
  have hfo := foldG_ok hg hv h2
  by_cases hx : x < g.length
  · unfold adjR
    rw [mem_foldG hg hv h2 hx]
    unfold goneR
    obtain ⟨_, hAB⟩ := atRow_cases (v : Int) hs.2 h2 (fun x hx => (hs.1 x hx).1)
    have two : ∀ a b : Nat, (a : Int) ∈ row g v → (b : Int) ∈ row g v → a ≠ b → 0 ≤ (atRow (v : Int) (row g v)).B ∧ (((a : Int) = (atRow (v : Int) (row g v)).A ∧ (b : Int) = (atRow (v : Int) (row g v)).B) ∨ ((a : Int) = (atRow (v : Int) (row g v)).B ∧ (b : Int) = (atRow (v : Int) (row g v)).A)) := by
      intro a b ha hb hab
      revert h2 ha hb
      rcases row g v with _ | ⟨p, _ | ⟨q, _ | ⟨r, l⟩⟩⟩
      · intro _ h; cases h
      · intro _ h1 h2
        have e1 : (a : Int) = p := by simpa using h1
        have e2 : (b : Int) = p := by simpa using h2
        omega
      · intro _ h1 h2
        have e1 : (a : Int) = p ∨ (a : Int) = q := by simpa using h1
        have e2 : (b : Int) = p ∨ (b : Int) = q := by simpa using h2
        have eA : (atRow (v : Int) [p, q]).A = p := rfl
        have eB : (atRow (v : Int) [p, q]).B = q := rfl
        rw [eA, eB]
        omega
      · intro h; simp at h
    constructor
    · rintro (⟨h1, h3, h4⟩ | ⟨h0, h⟩)
      · exact ⟨by omega, by omega, fun e => adjR_irr hg x (show (x : Int) ∈ row g x by rw [← e] at h4; exact h4), .inl h4⟩
      · rcases hAB with ⟨hB, _⟩ | ⟨k1, k2, k3, k4, k5⟩
        · omega
        · rcases h with ⟨e1, e2⟩ | ⟨e1, e2⟩
          · rw [← e1] at k1
            rw [← e2] at k2
            refine ⟨fun e => hirr (by rw [e] at k1; exact k1), fun e => hirr (by rw [e] at k2; exact k2), by omega, .inr ⟨k1, k2⟩⟩
          · rw [← e2] at k1
            rw [← e1] at k2
            refine ⟨fun e => hirr (by rw [e] at k2; exact k2), fun e => hirr (by rw [e] at k1; exact k1), by omega, .inr ⟨k2, k1⟩⟩
    · rintro ⟨h1, h3, h4, h | ⟨h5, h6⟩⟩
      · exact .inl ⟨by omega, by omega, h⟩
      · exact .inr (two x y h5 h6 h4)
  · constructor
    · intro h
      have := adjR_lt hfo h
      rw [foldG_length] at this
      exact absurd this hx
    · rintro ⟨h1, h3, h4, h | ⟨h5, h6⟩⟩
      · exact absurd (adjR_lt hg h) hx
      · exact absurd (adjR_lt hg (adjR_sym hg _ _ h5)) hx
theorem goneR_congr {R S : Nat → Nat → Prop} {k : Nat} (h : ∀ x y, R x y ↔ S x y) : (∃ B, KM R k B) ↔ ∃ B, KM S k B :=
  ⟨fun ⟨B, hB⟩ => ⟨B, hB.mono fun _ _ _ _ x y _ _ r => (h x y).1 r⟩, fun ⟨B, hB⟩ => ⟨B, hB.mono fun _ _ _ _ x y _ _ r => (h x y).2 r⟩⟩
theorem few_near {g : List (List Int)} (hg : GOk g) {v : Nat} (hv : v < g.length) (h2 : (row g v).length ≤ 2) : ∃ a b, ∀ x, adjR g v x → x = a ∨ x = b := by
  have h0 := (hg.sets v hv).1.1
  unfold adjR
  revert h2 h0
  rcases row g v with _ | ⟨p, _ | ⟨q, _ | ⟨r, l⟩⟩⟩
  · intro _ _; exact ⟨0, 0, fun x h => by cases h⟩
  · intro _ _
    refine ⟨p.toNat, 0, fun x h => .inl ?_⟩
    have : (x : Int) = p := by simpa using h
    omega
  · intro _ _
    refine ⟨p.toNat, q.toNat, fun x h => ?_⟩
    have : (x : Int) = p ∨ (x : Int) = q := by simpa using h
    omega
  · intro h; simp at h
theorem fold_km {g : List (List Int)} (hg : GOk g) {v : Nat} (hv : v < g.length) (h2 : (row g v).length ≤ 2) : (∃ B, KM (adjR g) 4 B) ↔ ∃ B, KM (adjR (foldG g (atRow v (row g v)))) 4 B := by
  rw [goneR_congr (adjR_fold hg hv h2)]
  obtain ⟨a, b, hab⟩ := few_near hg hv h2
  constructor
  · rintro ⟨B, hB⟩
    exact ⟨_, hB.gone (adjR_sym hg) (l := [a, b]) (by simp) fun x hx => by simpa using hab x hx⟩
  · rintro ⟨B, hB⟩
    exact hB.back (adjR_sym hg) hab (by omega)
/-- All neighbours are among these. -/
def InnR (g : List (List Int)) (L : List Int) : Prop := ∀ x y : Nat, adjR g x y → (y : Int) ∈ L
theorem folds_km {g : List (List Int)} {left : List Int} {fs : List Fd} {l : List Int} {g' : List (List Int)} (h : Folds g left fs l g') : GOk g → SetIn g.length left → InnR g left →
    ((∃ B, KM (adjR g) 4 B) ↔ ∃ B, KM (adjR g') 4 B) ∧ InnR g' l ∧ ∀ v ∈ l, 2 < (row g' v.toNat).length := by
  induction h with
  | stop h => intro hg hl hi; exact ⟨Iff.rfl, hi, h⟩
  | @step g l1 l2 v fs l g' h1 h2 h ih =>
    intro hg hl hi
    have hv := hl.1 v (by simp)
    obtain ⟨n, rfl⟩ := Int.eq_ofNat_of_zero_le hv.1
    have hn : n < g.length := by omega
    have h2' : (row g n).length ≤ 2 := h2
    obtain ⟨r1, r2, r3⟩ := ih (foldG_ok hg hn h2') ⟨fun x hx => by rw [foldG_length]; exact hl.1 x (mem_lessL.1 hx).1, lessL_rising hl.2 _⟩ fun x y hxy => by
      have hxy' := (adjR_fold hg hn h2' x y).1 hxy
      refine mem_lessL.2 ⟨?_, by have := hxy'.2.1; omega⟩
      rcases hxy'.2.2.2 with r | r
      · exact hi _ _ r
      · exact hi _ _ r.2
    exact ⟨(fold_km hg hn h2').trans r1, r2, r3⟩
theorem folds_total : ∀ (n : Nat) (g : List (List Int)) (L : List Int), L.length ≤ n → ∃ fs l g', Folds g L fs l g'
  | n, g, L, hn => by
    by_cases c : ∀ v ∈ L, 2 < (row g v.toNat).length
    · exact ⟨_, _, _, .stop c⟩
    · have key : ∀ L : List Int, (¬ ∀ v ∈ L, 2 < (row g v.toNat).length) → ∃ l1 v l2, L = l1 ++ v :: l2 ∧ (∀ x ∈ l1, 2 < (row g x.toNat).length) ∧ (row g v.toNat).length ≤ 2 := by
        intro L
        induction L with
        | nil => intro h; exact absurd (fun v hv => by cases hv) h
        | cons x L ih =>
          intro h
          by_cases e : 2 < (row g x.toNat).length
          · obtain ⟨l1, v, l2, rfl, h1, h2⟩ := ih fun hall => h fun v hv => by
              rcases List.mem_cons.1 hv with rfl | hv
              · exact e
              · exact hall v hv
            refine ⟨x :: l1, v, l2, rfl, fun z hz => ?_, h2⟩
            rcases List.mem_cons.1 hz with rfl | hz
            · exact e
            · exact h1 z hz
          · exact ⟨[], x, L, rfl, fun _ h => (by cases h), by omega⟩
      obtain ⟨l1, v, l2, rfl, h1, h2⟩ := key L c
      have hlt := lessL_length_lt (s := l1 ++ v :: l2) (v := v) (by simp)
      match n, hn with
      | 0, hn => simp at hn
      | n + 1, hn =>
        obtain ⟨fs, l, g', h⟩ := folds_total n (foldG g (atRow v (row g v.toNat))) (lessL (l1 ++ v :: l2) v) (by omega)
        exact ⟨_, _, _, .step h1 h2 h⟩
/-- What is left is not empty just where the full graph of four is a minor. -/
theorem left_km {g : List (List Int)} {L : List Int} {fs : List Fd} {l : List Int} {g' : List (List Int)} (h : Folds g L fs l g') (hg : GOk g) (h6 : g.length ≤ 6) (hL : SetIn g.length L) (hi : InnR g L) :
    (∃ B, KM (adjR g) 4 B) ↔ 0 < l.length := by
  obtain ⟨h1, h2, h3⟩ := folds_km h hg hL hi
  obtain ⟨k1, k2, k3⟩ := folds_ok h hg hL.1 hL.2
  rw [h1]
  constructor
  · rintro ⟨B, hB⟩
    refine Nat.pos_of_ne_zero fun h0 => ?_
    obtain rfl := List.eq_nil_of_length_eq_zero h0
    exact hB.none (by omega) fun x y r => by cases h2 x y r
  · intro hl
    have hfew : ∀ v : Nat, (v : Int) ∈ l → ¬ ∃ a b, ∀ x, adjR g' v x → x = a ∨ x = b := fun v hv ⟨a, b, hab⟩ => by
      have h5 := h3 v hv
      have e : ((v : Int)).toNat = v := rfl
      rw [e] at h5
      have hvl : v < g'.length := by have := (k3.1 v hv).2; omega
      have hsv := (k1.sets v hvl).1
      have := sub_len (row g' v) [(a : Int), (b : Int)] (hsv.2.imp fun {x y} hxy => by omega) fun x hx => by
        have hx0 := (hsv.1 x hx).1
        have := hab x.toNat (show ((x.toNat : Nat) : Int) ∈ row g' v by rw [show ((x.toNat : Nat) : Int) = x by omega]; exact hx)
        simp only [List.mem_cons, List.not_mem_nil, or_false]
        omega
      simp at this; omega
    obtain ⟨v, hv⟩ := List.exists_mem_of_length_pos hl
    obtain ⟨n, rfl⟩ := Int.eq_ofNat_of_zero_le (k3.1 v hv).1
    refine four_minor (adjR_sym k1) (adjR_irr k1) (fun x y r => by have := adjR_lt k1 r; omega) ?_ fun v hv => ?_
    · refine Classical.byContradiction fun hno => hfew n hv ⟨0, 0, fun x hx => (hno ⟨n, x, hx⟩).elim⟩
    · obtain ⟨u, hu⟩ := hv
      exact hfew v (h2 u v (adjR_sym k1 _ _ hu))
theorem hard_km {g : List (List Int)} {L : List Int} (hg : GOk g) (h6 : g.length ≤ 6) (hL : SetIn g.length L) (hi : InnR g L) : HardS g L ↔ ∃ B, KM (adjR g) 4 B := by
  obtain ⟨fs, l, g', h⟩ := folds_total _ g L (Nat.le_refl _)
  rw [left_km h hg h6 hL hi, hardS_iff h]
theorem innR_all {g : List (List Int)} (hg : GOk g) : InnR g (allL g.length) := fun x y r => by
  have := adjR_lt hg (adjR_sym hg _ _ r)
  exact mem_allL.2 ⟨by omega, by omega⟩
theorem ser_km {g : List (List Int)} (hg : GOk g) (h6 : g.length ≤ 6) : SerS g ↔ ¬ ∃ B, KM (adjR g) 4 B := by
  obtain ⟨fs, l, g', h⟩ := folds_total _ g (allL g.length) (Nat.le_refl _)
  rw [left_km h hg h6 ⟨fun x hx => mem_allL.1 hx, allL_rising _⟩ (innR_all hg), serS_iff hg h]
  omega

end Go.Proofs.YtiooindlpinjhaaDoor
