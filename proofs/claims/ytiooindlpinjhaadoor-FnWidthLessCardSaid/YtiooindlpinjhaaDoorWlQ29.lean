/- Plain: the complement of a graph, two graphs beside each other, two graphs joined: neighbours, parts, degrees. -/
import Derived.Test.YtiooindlpinjhaaDoorWlQ16
import Derived.Test.YtiooindlpinjhaaDoorWlQ6
import Derived.Test.YtiooindlpinjhaaDoorWlQ15
import Derived.Test.YtiooindlpinjhaaDoorWlQ17
namespace Go.Proofs.YtiooindlpinjhaaDoor

def compE (E : Nat → Nat → Bool) : Nat → Nat → Bool := fun r j => !(r == j) && !E r j
def besE (n : Nat) (E F : Nat → Nat → Bool) : Nat → Nat → Bool := fun r j =>
  if r < n then decide (j < n) && E r j else decide (n ≤ j) && F (r - n) (j - n)
def joiE (n : Nat) (E F : Nat → Nat → Bool) : Nat → Nat → Bool := fun r j => besE n E F r j || (decide (r < n) != decide (j < n))

theorem ofG_matG {m : Nat} {E : Nat → Nat → Bool} {r j : Nat} (hr : r < m) (hj : j < m) : ofG (matG m E) r j = E r j := by
  unfold ofG
  cases h : E r j with
  | true => exact decide_eq_true ((mem_matG hr).2 ⟨j, rfl, hj, h⟩)
  | false =>
    refine decide_eq_false fun hm => ?_
    obtain ⟨k, e, _, h2⟩ := (mem_matG hr).1 hm
    obtain rfl : k = j := by omega
    rw [h] at h2
    exact absurd h2 (by decide)

theorem comp_sym {E : Nat → Nat → Bool} (h : ∀ r j, E r j = true → E j r = true) (r j : Nat) (hc : compE E r j = true) : compE E j r = true := by
  unfold compE at hc ⊢
  simp only [Bool.and_eq_true, Bool.not_eq_true', beq_eq_false_iff_ne] at hc ⊢
  refine ⟨fun e => hc.1 e.symm, ?_⟩
  cases h2 : E j r with
  | false => rfl
  | true =>
    rw [h _ _ h2] at hc
    exact absurd hc.2 (by decide)
theorem comp_irr (E : Nat → Nat → Bool) (r : Nat) : compE E r r = false := by simp [compE]
theorem bes_low {n : Nat} {E F : Nat → Nat → Bool} {r j : Nat} (hr : r < n) : besE n E F r j = (decide (j < n) && E r j) := by simp [besE, hr]
theorem bes_high {n : Nat} {E F : Nat → Nat → Bool} {r j : Nat} : besE n E F (n + r) j = (decide (n ≤ j) && F r (j - n)) := by
  unfold besE
  rw [if_neg (by omega), show n + r - n = r by omega]
theorem bes_sym {n : Nat} {E F : Nat → Nat → Bool} (h1 : ∀ r j, E r j = true → E j r = true) (h2 : ∀ r j, F r j = true → F j r = true) (r j : Nat) (hb : besE n E F r j = true) : besE n E F j r = true := by
  unfold besE at hb ⊢
  by_cases hr : r < n
  · rw [if_pos hr] at hb
    simp only [Bool.and_eq_true, decide_eq_true_eq] at hb
    rw [if_pos hb.1]
    simp [hr, h1 _ _ hb.2]
  · rw [if_neg hr] at hb
    simp only [Bool.and_eq_true, decide_eq_true_eq] at hb
    rw [if_neg (by omega)]
    simp only [Bool.and_eq_true, decide_eq_true_eq]
    exact ⟨by omega, h2 _ _ hb.2⟩
theorem bes_irr {n : Nat} {E F : Nat → Nat → Bool} (h1 : ∀ r, E r r = false) (h2 : ∀ r, F r r = false) (r : Nat) : besE n E F r r = false := by
  unfold besE
  split <;> simp [h1, h2]
theorem joi_sym {n : Nat} {E F : Nat → Nat → Bool} (h1 : ∀ r j, E r j = true → E j r = true) (h2 : ∀ r j, F r j = true → F j r = true) (r j : Nat) (hb : joiE n E F r j = true) : joiE n E F j r = true := by
  unfold joiE at hb ⊢
  rw [Bool.or_eq_true] at hb ⊢
  rcases hb with hb | hb
  · exact .inl (bes_sym h1 h2 _ _ hb)
  · right
    rw [bne_iff_ne] at hb ⊢
    exact fun e => hb e.symm
theorem joi_irr {n : Nat} {E F : Nat → Nat → Bool} (h1 : ∀ r, E r r = false) (h2 : ∀ r, F r r = false) (r : Nat) : joiE n E F r r = false := by
  unfold joiE
  rw [bes_irr h1 h2]
  simp

/-- The complement of two complements beside each other is the join. -/
theorem join_comp {n m : Nat} {E F : Nat → Nat → Bool} (h1 : ∀ r, E r r = false) (h2 : ∀ r, F r r = false) :
    matG (n + m) (compE (ofG (matG (n + m) (besE n (ofG (matG n (compE E))) (ofG (matG m (compE F))))))) = matG (n + m) (joiE n E F) := by
  refine matG_congr fun r j hr hj => ?_
  unfold compE
  rw [ofG_matG hr hj]
  unfold joiE besE
  by_cases hrn : r < n
  · by_cases hjn : j < n
    · rw [if_pos hrn, if_pos hrn, ofG_matG hrn hjn]
      by_cases e : r = j
      · subst e; simp [h1]
      · have e' : (r == j) = false := by simpa using e
        simp [hrn, hjn, e']
    · have e' : (r == j) = false := by simp; omega
      simp [hrn, hjn, e']
  · by_cases hjn : j < n
    · have e' : (r == j) = false := by simp; omega
      simp [hrn, hjn, e', show ¬ n ≤ j by omega]
    · rw [if_neg hrn, if_neg hrn, ofG_matG (by omega) (by omega)]
      by_cases e : r = j
      · subst e; simp [h2]
      · have e' : (r == j) = false := by simpa using e
        have e2 : ((r - n) == (j - n)) = false := by simp; omega
        simp [hrn, hjn, e', e2, show n ≤ j by omega]

/-- What is reached depends on the edges within alone. -/
theorem rch_congr {E E' : Nat → Nat → Bool} {S : Nat → Prop} {u : Nat} (hu : S u) (h : ∀ r j, S r → S j → E r j = E' r j) : ∀ x, Rch E S u x → Rch E' S u x := by
  intro x hx
  induction hx with
  | base => exact .base
  | step h1 h2 h3 ih => exact .step ih (by rw [← h _ _ (rch_in hu _ h1) h3]; exact h2) h3
theorem rch_congr' {E E' : Nat → Nat → Bool} {S : Nat → Prop} {u : Nat} (hu : S u) (h : ∀ r j, S r → S j → E r j = E' r j) (x : Nat) : Rch E S u x ↔ Rch E' S u x :=
  ⟨rch_congr hu h x, rch_congr hu (fun r j hr hj => (h r j hr hj).symm) x⟩
theorem partL_congr {E E' : Nat → Nat → Bool} {L : List Nat} {u : Nat} (hu : u ∈ L) (h : ∀ r j, r ∈ L → j ∈ L → E r j = E' r j) : partL E L u = partL E' L u :=
  List.filter_congr fun x _ => dec_congr (rch_congr' hu h x)
theorem restL_congr {E E' : Nat → Nat → Bool} {L : List Nat} {u : Nat} (hu : u ∈ L) (h : ∀ r j, r ∈ L → j ∈ L → E r j = E' r j) : restL E L u = restL E' L u :=
  List.filter_congr fun x _ => by rw [dec_congr (rch_congr' hu h x)]
theorem parts_congr {E E' : Nat → Nat → Bool} {L : List Nat} {ps : List (List Nat)} (h : Parts E L ps) : (∀ r j, r ∈ L → j ∈ L → E r j = E' r j) → Parts E' L ps := by
  induction h with
  | done => intro _; exact .done
  | step u L ps _ ih =>
    intro hc
    rw [partL_congr (List.mem_cons_self ..) hc]
    refine .step u L ps ?_
    rw [← restL_congr (List.mem_cons_self ..) hc]
    exact ih fun r j hr hj => hc r j (mem_restL.1 hr).1 (mem_restL.1 hj).1

/-- Reached among the upper ones. -/
theorem rch_high {n : Nat} {E F : Nat → Nat → Bool} {M : List Nat} {u : Nat} (x : Nat) : Rch (besE n E F) (· ∈ M.map (n + ·)) (n + u) (n + x) ↔ Rch F (· ∈ M) u x := by
  constructor
  · intro h
    have key : ∀ y, Rch (besE n E F) (· ∈ M.map (n + ·)) (n + u) y → ∃ z, y = n + z ∧ Rch F (· ∈ M) u z := by
      refine rch_closed ⟨u, rfl, .base⟩ fun a b ha hE hb => ?_
      obtain ⟨z, rfl, hz⟩ := ha
      obtain ⟨c, hc, rfl⟩ := List.mem_map.1 hb
      rw [bes_high, Bool.and_eq_true] at hE
      have h2 := hE.2
      rw [show n + c - n = c by omega] at h2
      exact ⟨c, rfl, .step hz h2 hc⟩
    obtain ⟨z, e, hz⟩ := key _ h
    obtain rfl : x = z := by omega
    exact hz
  · intro h
    induction h with
    | base => exact .base
    | @step a b h1 h2 h3 ih =>
      refine .step ih ?_ (List.mem_map.2 ⟨b, h3, rfl⟩)
      rw [bes_high, show n + b - n = b by omega, h2]
      simp
theorem parts_high {n : Nat} {E F : Nat → Nat → Bool} {M : List Nat} {qs : List (List Nat)} (h : Parts F M qs) : Parts (besE n E F) (M.map (n + ·)) (qs.map (List.map (n + ·))) := by
  induction h with
  | done => exact .done
  | step u M qs _ ih =>
    have e1 : partL (besE n E F) ((u :: M).map (n + ·)) (n + u) = (partL F (u :: M) u).map (n + ·) := by
      unfold partL
      rw [List.filter_map]
      congr 1
      exact List.filter_congr fun x _ => dec_congr (rch_high x)
    have e2 : restL (besE n E F) ((u :: M).map (n + ·)) (n + u) = (restL F (u :: M) u).map (n + ·) := by
      unfold restL
      rw [List.filter_map]
      congr 1
      refine List.filter_congr fun x _ => ?_
      simp only [Function.comp]
      rw [dec_congr (rch_high x)]
    have := Parts.step (E := besE n E F) (n + u) (M.map (n + ·)) (qs.map (List.map (n + ·))) (by rw [← List.map_cons (f := (n + ·)), e2]; exact ih)
    rw [← List.map_cons (f := (n + ·)), e1] at this
    exact this
theorem rch_low {n : Nat} {E F : Nat → Nat → Bool} {L M : List Nat} (hL : ∀ x ∈ L, x < n) {u : Nat} (hu : u ∈ L) (x : Nat) : Rch (besE n E F) (· ∈ L ++ M.map (n + ·)) u x ↔ Rch E (· ∈ L) u x := by
  constructor
  · intro h
    refine (rch_closed (T := fun x => x < n ∧ Rch E (· ∈ L) u x) ⟨hL u hu, .base⟩ (fun a b ha hE hb => ?_) x h).2
    rw [bes_low ha.1, Bool.and_eq_true, decide_eq_true_eq] at hE
    rcases List.mem_append.1 hb with h1 | h1
    · exact ⟨hE.1, .step ha.2 hE.2 h1⟩
    · obtain ⟨c, _, rfl⟩ := List.mem_map.1 h1
      omega
  · intro h
    induction h with
    | base => exact .base
    | @step a b h1 h2 h3 ih =>
      have ha := hL _ (rch_in (S := (· ∈ L)) hu _ h1)
      refine .step ih ?_ (List.mem_append_left _ h3)
      rw [bes_low ha, h2]
      simp [hL _ h3]
theorem parts_beside {n : Nat} {E F : Nat → Nat → Bool} {M : List Nat} {qs : List (List Nat)} (hq : Parts F M qs) {L : List Nat} {ps : List (List Nat)} (h : Parts E L ps) :
    (∀ x ∈ L, x < n) → Parts (besE n E F) (L ++ M.map (n + ·)) (ps ++ qs.map (List.map (n + ·))) := by
  induction h with
  | done => intro _; exact parts_high hq
  | step u L ps _ ih =>
    intro hL
    have e1 : partL (besE n E F) (u :: L ++ M.map (n + ·)) u = partL E (u :: L) u := by
      unfold partL
      rw [List.filter_append, List.filter_congr fun x _ => dec_congr (rch_low (M := M) hL (List.mem_cons_self ..) x)]
      have : (M.map (n + ·)).filter (fun x => dec (Rch (besE n E F) (· ∈ u :: L ++ M.map (n + ·)) u x)) = [] := by
        rw [List.filter_eq_nil_iff]
        intro x hx
        obtain ⟨c, _, rfl⟩ := List.mem_map.1 hx
        rw [dec_iff, rch_low hL (List.mem_cons_self ..)]
        intro hr
        have := hL _ (rch_in (S := (· ∈ u :: L)) (List.mem_cons_self ..) _ hr)
        omega
      rw [this, List.append_nil]
    have e2 : restL (besE n E F) (u :: L ++ M.map (n + ·)) u = restL E (u :: L) u ++ M.map (n + ·) := by
      unfold restL
      rw [List.filter_append]
      congr 1
      · exact List.filter_congr fun x _ => by rw [dec_congr (rch_low (M := M) hL (List.mem_cons_self ..) x)]
      · rw [List.filter_eq_self]
        intro x hx
        obtain ⟨c, _, rfl⟩ := List.mem_map.1 hx
        rw [Bool.not_eq_true', dec_false]
        rw [rch_low hL (List.mem_cons_self ..)]
        intro hr
        have := hL _ (rch_in (S := (· ∈ u :: L)) (List.mem_cons_self ..) _ hr)
        omega
    have := Parts.step (E := besE n E F) u (L ++ M.map (n + ·)) (ps ++ qs.map (List.map (n + ·))) (by
      rw [← List.cons_append, e2]
      exact ih fun x hx => hL x (mem_restL.1 hx).1)
    rw [← List.cons_append, e1] at this
    exact this
theorem range_beside (n m : Nat) : List.range (n + m) = List.range n ++ (List.range m).map (n + ·) := by rw [List.range_add]
/-- What stands beside has the parts of both. -/
theorem parts_sum {n m : Nat} {E F X : Nat → Nat → Bool} {ps qs rs : List (List Nat)} (hX : ∀ r j, r < n + m → j < n + m → X r j = besE n E F r j) (h1 : Parts E (List.range n) ps) (h2 : Parts F (List.range m) qs) (h3 : Parts X (List.range (n + m)) rs) : rs.length = ps.length + qs.length := by
  have h4 := parts_beside h2 h1 (n := n) (fun x hx => List.mem_range.1 hx)
  rw [← range_beside] at h4
  have h5 := parts_congr h3 fun r j hr hj => hX r j (List.mem_range.1 hr) (List.mem_range.1 hj)
  rw [parts_det h5 h4, List.length_append, List.length_map]
/-- What is joined is one part. -/
theorem parts_one {E : Nat → Nat → Bool} {L : List Nat} {u : Nat} {ps : List (List Nat)} (h : Parts E (u :: L) ps) (hr : ∀ x ∈ L, Rch E (· ∈ u :: L) u x) : ps.length = 1 := by
  cases h with
  | step _ _ ps h =>
    have e : restL E (u :: L) u = [] := by
      rw [List.eq_nil_iff_forall_not_mem]
      intro x hx
      have h1 := mem_restL.1 hx
      rcases List.mem_cons.1 h1.1 with rfl | h2
      · exact h1.2 .base
      · exact h1.2 (hr x h2)
    rw [e] at h
    cases h
    rfl
theorem parts_joined {n m : Nat} {E F X : Nat → Nat → Bool} {rs : List (List Nat)} (hn : 0 < n) (hm : 0 < m) (hX : ∀ r j, r < n + m → j < n + m → X r j = joiE n E F r j) (h : Parts X (List.range (n + m)) rs) : rs.length = 1 := by
  obtain ⟨k, hk⟩ : ∃ k, n + m = k + 1 := ⟨n + m - 1, by omega⟩
  have e : List.range (n + m) = 0 :: (List.range k).map Nat.succ := by rw [hk, List.range_succ_eq_map]
  have hmem : ∀ x, x < n + m → x ∈ 0 :: (List.range k).map Nat.succ := fun x hx => by rw [← e]; exact List.mem_range.2 hx
  rw [e] at h
  refine parts_one h fun x hx => ?_
  have hx2 : x < n + m := by
    have : x ∈ List.range (n + m) := by rw [e]; exact List.mem_cons_of_mem _ hx
    exact List.mem_range.1 this
  have hcross : ∀ r j, r < n + m → j < n + m → (r < n ↔ ¬ j < n) → X r j = true := fun r j hr hj hc => by
    rw [hX r j hr hj]
    unfold joiE
    by_cases h1 : r < n
    · simp [h1, hc.1 h1]
    · have : j < n := by
        by_cases h2 : j < n
        · exact h2
        · exact absurd (hc.2 h2) h1
      simp [h1, this]
  by_cases hxn : x < n
  · exact .step (.step .base (hcross 0 n (by omega) (by omega) ⟨fun _ => by omega, fun _ => hn⟩) (hmem n (by omega))) (hcross n x (by omega) hx2 ⟨fun _ => by omega, fun h => absurd hxn h⟩) (hmem x hx2)
  · exact .step .base (hcross 0 x (by omega) hx2 ⟨fun _ => hxn, fun _ => hn⟩) (hmem x hx2)

/-- The degrees beside each other. -/
theorem degN_low {n m : Nat} {E F X : Nat → Nat → Bool} (hX : ∀ r j, r < n + m → j < n + m → X r j = besE n E F r j) {v : Nat} (hv : v < n) : degN (n + m) X v = degN n E v := by
  unfold degN
  rw [range_beside, List.countP_append]
  have h1 : (List.range n).countP (X v) = (List.range n).countP (E v) := List.countP_congr fun x hx => by
    have := List.mem_range.1 hx
    rw [hX v x (by omega) (by omega), bes_low hv]
    simp [this]
  have h2 : ((List.range m).map (n + ·)).countP (X v) = 0 := List.countP_eq_zero.2 fun x hx => by
    obtain ⟨c, hc, rfl⟩ := List.mem_map.1 hx
    have := List.mem_range.1 hc
    rw [hX v _ (by omega) (by omega), bes_low hv]
    simp [show ¬ n + c < n by omega]
  omega
theorem degN_high {n m : Nat} {E F X : Nat → Nat → Bool} (hX : ∀ r j, r < n + m → j < n + m → X r j = besE n E F r j) {v : Nat} (hv : v < m) : degN (n + m) X (n + v) = degN m F v := by
  unfold degN
  rw [range_beside, List.countP_append, List.countP_map]
  have h1 : (List.range n).countP (X (n + v)) = 0 := List.countP_eq_zero.2 fun x hx => by
    have := List.mem_range.1 hx
    rw [hX _ x (by omega) (by omega), bes_high]
    simp; omega
  have h2 : (List.range m).countP (X (n + v) ∘ fun x => n + x) = (List.range m).countP (F v) := List.countP_congr fun x hx => by
    have := List.mem_range.1 hx
    simp only [Function.comp]
    rw [hX _ _ (by omega) (by omega), bes_high, show n + x - n = x by omega]
    simp
  omega
theorem totN_beside {n m : Nat} {E F X : Nat → Nat → Bool} (hX : ∀ r j, r < n + m → j < n + m → X r j = besE n E F r j) : totN (n + m) X = totN n E + totN m F := by
  unfold totN
  rw [range_beside, List.map_append, List.sum_append, List.map_map]
  congr 1
  · congr 1
    exact List.map_congr_left fun v hv => degN_low hX (List.mem_range.1 hv)
  · congr 1
    exact List.map_congr_left fun v hv => degN_high hX (List.mem_range.1 hv)
/-- The first vertices of what stands beside are the first graph. -/
theorem ind_beside {n m : Nat} {E F : Nat → Nat → Bool} : indL (matG (n + m) (besE n E F)) (allL n) = matG n E := by
  unfold indL
  rw [allL_length]
  refine matG_congr fun r j hr hj => ?_
  have hg : ∀ k, k < n → (allL n).getD k 0 = (k : Int) := fun k hk => by simp [allL, hk]
  unfold indE
  rw [hg r hr, hg j hj, Int.toNat_natCast]
  have := ofG_matG (E := besE n E F) (show r < n + m by omega) (show j < n + m by omega)
  unfold ofG at this
  rw [this, bes_low hr]
  simp [hj]

end Go.Proofs.YtiooindlpinjhaaDoor

/- Plain: the vertices that are left when one is cut; an edge contracted; the graph of some vertices. -/
namespace Go.Proofs.YtiooindlpinjhaaDoor

/-- The vertices that are left when one is cut. -/
def restN (n b : Nat) : List Nat := (List.range n).filter fun v => v != b
theorem mem_restN {n b v : Nat} : v ∈ restN n b ↔ v < n ∧ v ≠ b := by simp [restN]
theorem restN_rising (n b : Nat) : (restN n b).Pairwise (· < ·) := List.Pairwise.filter _ List.pairwise_lt_range
/-- Sets of a pattern's vertices: row i holds the i-th of a rising list, and perhaps one more vertex. -/
theorem rising_inj {l : List Nat} (h : l.Pairwise (· < ·)) {i k : Nat} (hi : i < l.length) (hk : k < l.length) (e : l[i] = l[k]) : i = k := by
  rcases Nat.lt_trichotomy i k with h1 | h1 | h1
  · have := List.pairwise_iff_getElem.1 h i k hi hk h1; omega
  · exact h1
  · have := List.pairwise_iff_getElem.1 h k i hk hi h1; omega

theorem natInts_at {l : List Nat} {i : Nat} (h : i < l.length) : (natInts l).getD i 0 = (l[i] : Int) := by simp [natInts, h]
theorem indE_nat {g : List (List Int)} {l : List Nat} {i k : Nat} (hi : i < l.length) (hk : k < l.length) : indE g (natInts l) i k = ofG g l[i] l[k] := by
  unfold indE ofG
  rw [natInts_at hi, natInts_at hk, Int.toNat_natCast]
theorem indL_gok {g : List (List Int)} {l : List Nat} (hg : GOk g) (hl : ∀ v ∈ l, v < g.length) (h1 : 1 ≤ l.length) (h16 : l.length ≤ 16) : GOk (indL g (natInts l)) := by
  have hs := indE_sym hg (l := natInts l) fun x hx => by
    obtain ⟨i, hi, rfl⟩ := mem_natInts.1 hx
    have := hl i hi
    omega
  unfold indL
  rw [natInts_length] at hs ⊢
  rw [show matG l.length (indE g (natInts l)) = matG l.length (fun r j => decide (r < l.length) && decide (j < l.length) && indE g (natInts l) r j) from matG_congr fun r j hr hj => by simp [hr, hj]]
  refine gok_matG h1 h16 (fun r j h => ?_) fun r => ?_
  · simp only [Bool.and_eq_true, decide_eq_true_eq] at h ⊢
    exact ⟨⟨h.1.2, h.1.1⟩, by rw [← hs.sym r j h.1.1 h.1.2]; exact h.2⟩
  · by_cases hr : r < l.length
    · rw [hs.irr r hr]; simp
    · simp [hr]
theorem matG_to {m : Nat} {E : Nat → Nat → Bool} {i k : Nat} (hi : i < m) (_hk : k < m) (h : ofG (matG m E) i k = true) : E i k = true := by
  simp only [ofG, decide_eq_true_eq] at h
  obtain ⟨j, hj, _, hE⟩ := (mem_matG hi).1 h
  obtain rfl : j = k := by omega
  exact hE
/-- The edges when what b has is given to a. -/
def conE (E : Nat → Nat → Bool) (a b : Nat) : Nat → Nat → Bool := fun r j => E r j || (r == a && (E b j && j != a)) || (j == a && (E b r && r != a))
theorem conE_sym {E : Nat → Nat → Bool} (hs : ∀ r j, E r j = true → E j r = true) (a b r j : Nat) (h : conE E a b r j = true) : conE E a b j r = true := by
  unfold conE at h ⊢
  simp only [Bool.or_eq_true, Bool.and_eq_true] at h ⊢
  rcases h with (h | h) | h
  · exact .inl (.inl (hs _ _ h))
  · exact .inr h
  · exact .inl (.inr h)
theorem conE_irr {E : Nat → Nat → Bool} (hi : ∀ r, E r r = false) (a b r : Nat) : conE E a b r r = false := by
  unfold conE
  rw [hi]
  by_cases e : r = a
  · subst e; simp
  · simp [e]
end Go.Proofs.YtiooindlpinjhaaDoor

/- Plain: a contracted edge: nets, vertices, edges, parts. -/
namespace Go.Proofs.YtiooindlpinjhaaDoor

theorem filter_off {L : List Nat} {b : Nat} (h : b ∉ L) : (L.filter fun v => v != b) = L := List.filter_eq_self.2 fun x hx => by
  rw [bne_iff_ne]
  intro e
  exact h (e ▸ hx)
theorem sum_splitC {L : List Nat} {a : Nat} (f : Nat → Nat) (hn : L.Nodup) (ha : a ∈ L) : (L.map f).sum = f a + ((L.filter fun v => v != a).map f).sum := by
  induction L with
  | nil => cases ha
  | cons x L ih =>
    rw [List.nodup_cons] at hn
    by_cases e : x = a
    · subst e
      rw [List.filter_cons_of_neg (by simp), filter_off hn.1]
      simp
    · have ha' : a ∈ L := (List.mem_cons.1 ha).resolve_left fun h => e h.symm
      rw [List.filter_cons_of_pos (by simpa using e), List.map_cons, List.map_cons, List.sum_cons, List.sum_cons, ih hn.2 ha']
      omega
theorem countP_splitC {L : List Nat} {a : Nat} (p : Nat → Bool) (hn : L.Nodup) (ha : a ∈ L) : L.countP p = (p a).toNat + (L.filter fun v => v != a).countP p := by
  induction L with
  | nil => cases ha
  | cons x L ih =>
    rw [List.nodup_cons] at hn
    by_cases e : x = a
    · subst e
      rw [List.filter_cons_of_neg (by simp), filter_off hn.1, List.countP_cons]
      cases p x <;> simp <;> omega
    · have ha' : a ∈ L := (List.mem_cons.1 ha).resolve_left fun h => e h.symm
      rw [List.filter_cons_of_pos (by simpa using e), List.countP_cons, List.countP_cons, ih hn.2 ha']
      omega
theorem sum_leC {L : List Nat} {f g : Nat → Nat} (h : ∀ x ∈ L, f x ≤ g x) : (L.map f).sum ≤ (L.map g).sum := by
  induction L with
  | nil => exact Nat.le_refl _
  | cons x L ih =>
    rw [List.map_cons, List.map_cons, List.sum_cons, List.sum_cons]
    have h1 := h x (List.mem_cons_self ..)
    have h2 := ih fun y hy => h y (List.mem_cons_of_mem _ hy)
    omega
theorem countP_orC {L : List Nat} {p q r : Nat → Bool} (h : ∀ x ∈ L, p x = true → q x = true ∨ r x = true) : L.countP p ≤ L.countP q + L.countP r := by
  induction L with
  | nil => simp
  | cons x L ih =>
    have h1 := h x (List.mem_cons_self ..)
    have h2 := ih fun y hy => h y (List.mem_cons_of_mem _ hy)
    rw [List.countP_cons, List.countP_cons, List.countP_cons]
    cases hp : p x <;> cases hq : q x <;> cases hr : r x <;> simp_all <;> omega
theorem restN_nodup (n b : Nat) : (restN n b).Nodup := List.Pairwise.filter _ List.nodup_range
theorem restN_length {n b : Nat} (hb : b < n) : (restN n b).length = n - 1 := by
  have h := countP_splitC (fun _ => true) List.nodup_range (List.mem_range.2 hb)
  simp only [List.countP_true, List.length_range, Bool.toNat_true] at h
  unfold restN
  omega
/-! ### What the program's rows are -/
/-- What b has, as far as read, is given to a. -/
def conF (E : Nat → Nat → Bool) (a : Nat) (ws : List Nat) : Nat → Nat → Bool := fun r j => E r j || (r == a && decide (j ∈ ws)) || (j == a && decide (r ∈ ws))
theorem conF_nil (E : Nat → Nat → Bool) (a : Nat) : conF E a [] = E := by
  funext r j
  simp [conF]
theorem conF_snoc {n a v : Nat} {E : Nat → Nat → Bool} {ws : List Nat} (ha : a < n) (hv : v < n) (hav : a ≠ v) : joinL (indN n (conF E a ws)) a v = indN n (conF E a (ws ++ [v])) := by
  refine natList_ext (by rw [joinL_length, indN_length, indN_length]) fun r hr => ?_
  rw [joinL_length, indN_length] at hr
  refine Nat.eq_of_testBit_eq fun j => ?_
  rw [Bool.eq_iff_iff, joinL_testBit (by rw [indN_length]; exact ha) (by rw [indN_length]; exact hv) hav, indN_bit hr, indN_bit hr]
  simp only [conF, Bool.and_eq_true, Bool.or_eq_true, decide_eq_true_eq, List.mem_append, List.mem_singleton, beq_iff_eq]
  constructor
  · rintro (⟨h1, (h2 | ⟨h3, h4⟩) | ⟨h3, h4⟩⟩ | ⟨rfl, rfl⟩ | ⟨rfl, rfl⟩)
    · exact ⟨h1, .inl (.inl h2)⟩
    · exact ⟨h1, .inl (.inr ⟨h3, .inl h4⟩)⟩
    · exact ⟨h1, .inr ⟨h3, .inl h4⟩⟩
    · exact ⟨hv, .inl (.inr ⟨rfl, .inr rfl⟩)⟩
    · exact ⟨ha, .inr ⟨rfl, .inr rfl⟩⟩
  · rintro ⟨h1, (h2 | ⟨h3, h4 | h4⟩) | ⟨h3, h4 | h4⟩⟩
    · exact .inl ⟨h1, .inl (.inl h2)⟩
    · exact .inl ⟨h1, .inl (.inr ⟨h3, h4⟩)⟩
    · exact .inr (.inl ⟨h3, h4⟩)
    · exact .inl ⟨h1, .inr ⟨h3, h4⟩⟩
    · exact .inr (.inr ⟨h4, h3⟩)
/-- The neighbours of b but a. -/
def nbL (n : Nat) (E : Nat → Nat → Bool) (a b : Nat) : List Nat := (List.range n).filter fun j => E b j && j != a
theorem conF_all {n a b : Nat} {E : Nat → Nat → Bool} : indN n (conF E a (nbL n E a b)) = indN n (conE E a b) := by
  refine natList_ext (by rw [indN_length, indN_length]) fun r hr => ?_
  rw [indN_length] at hr
  refine Nat.eq_of_testBit_eq fun j => ?_
  rw [indN_bit hr, indN_bit hr]
  by_cases hj : j < n
  · simp only [conF, conE, nbL, List.mem_filter, List.mem_range, hj, hr, true_and, Bool.decide_eq_true]
  · simp [hj]
/-! ### Parts -/
theorem rch_con {E : Nat → Nat → Bool} (hs : ∀ r j, E r j = true → E j r = true) {L : List Nat} {a b : Nat} (ha : a ∈ L) (hb : b ∈ L) (hab : a ≠ b) (hE : E a b = true) {u : Nat} (hub : u ≠ b) (x : Nat) (hx : x ≠ b) :
    Rch E (· ∈ L) u x ↔ Rch (conE E a b) (· ∈ L.filter fun v => v != b) u x := by
  constructor
  · intro h
    have key : ∀ y, Rch E (· ∈ L) u y → Rch (conE E a b) (· ∈ L.filter fun v => v != b) u (if y = b then a else y) := by
      refine rch_closed (by rw [if_neg hub]; exact .base) fun y z hy hyz hz => ?_
      by_cases h1 : y = b
      · rw [if_pos h1] at hy
        by_cases h2 : z = b
        · rw [if_pos h2]; exact hy
        · rw [if_neg h2]
          by_cases h3 : z = a
          · rw [h3]; exact hy
          · refine .step hy ?_ (by simp [hz, h2])
            subst h1
            simp [conE, hyz, h3]
      · rw [if_neg h1] at hy
        by_cases h2 : z = b
        · rw [if_pos h2]
          by_cases h3 : y = a
          · rw [h3] at hy; exact hy
          · refine .step hy ?_ (by simp [ha, hab])
            have := hs _ _ hyz
            subst h2
            simp [conE, this, h3]
        · rw [if_neg h2]
          refine .step hy ?_ (by simp [hz, h2])
          simp [conE, hyz]
    have := key x h
    rwa [if_neg hx] at this
  · intro h
    refine (rch_closed (T := fun x => Rch E (· ∈ L) u x) .base (fun y z hy hyz hz => ?_) x h)
    have hz := (List.mem_filter.1 hz).1
    simp only [conE, Bool.or_eq_true, Bool.and_eq_true, beq_iff_eq, bne_iff_ne] at hyz
    rcases hyz with (h1 | ⟨rfl, h1, _⟩) | ⟨rfl, h1, _⟩
    · exact .step hy h1 hz
    · exact .step (.step hy hE hb) h1 hz
    · exact .step (.step hy (hs _ _ h1) hb) (hs _ _ hE) hz
theorem con_far {E : Nat → Nat → Bool} {a b r j : Nat} (hr : r ≠ a) (hj : j ≠ a) : conE E a b r j = E r j := by
  have h1 : (r == a) = false := beq_eq_false_iff_ne.2 hr
  have h2 : (j == a) = false := beq_eq_false_iff_ne.2 hj
  simp [conE, h1, h2]
theorem parts_con {E : Nat → Nat → Bool} (hs : ∀ r j, E r j = true → E j r = true) {a b : Nat} (hab : a < b) (hE : E a b = true) {L : List Nat} {ps : List (List Nat)} (h : Parts E L ps) : L.Pairwise (· < ·) → a ∈ L → b ∈ L →
    ∃ qs, Parts (conE E a b) (L.filter fun v => v != b) qs ∧ qs.length = ps.length := by
  induction h with
  | done => intro _ ha; cases ha
  | step u L ps hp ih =>
    intro hr ha hb
    have hub : u ≠ b := by
      rintro rfl
      rcases List.mem_cons.1 ha with e | e
      · omega
      · have := (List.pairwise_cons.1 hr).1 a e
        omega
    have hne : a ≠ b := by omega
    have eF : ((u :: L).filter fun v => v != b) = u :: (L.filter fun v => v != b) := by rw [List.filter_cons_of_pos (by simpa using hub)]
    have key := rch_con hs ha hb hne hE hub
    have eR : restL (conE E a b) ((u :: L).filter fun v => v != b) u = (restL E (u :: L) u).filter fun v => v != b := by
      unfold restL
      rw [List.filter_filter, List.filter_filter]
      refine List.filter_congr fun x _ => ?_
      by_cases hx : x = b
      · simp [hx]
      · rw [dec_congr (key x hx)]
        simp [hx, Bool.and_comm]
    by_cases hra : Rch E (· ∈ u :: L) u a
    · have hrb : Rch E (· ∈ u :: L) u b := .step hra hE hb
      have ha' : a ∉ restL E (u :: L) u := fun h => (mem_restL.1 h).2 hra
      have hb' : b ∉ restL E (u :: L) u := fun h => (mem_restL.1 h).2 hrb
      refine ⟨partL (conE E a b) (u :: (L.filter fun v => v != b)) u :: ps, ?_, rfl⟩
      rw [eF] at eR ⊢
      refine .step u _ ps ?_
      rw [eR, filter_off hb']
      exact parts_congr hp fun r j h1 h2 => (con_far (by rintro rfl; exact ha' h1) (by rintro rfl; exact ha' h2)).symm
    · have hrb : ¬ Rch E (· ∈ u :: L) u b := fun h => hra (.step h (hs _ _ hE) ha)
      obtain ⟨qs, h1, h2⟩ := ih (restL_rising hr u) (mem_restL.2 ⟨ha, hra⟩) (mem_restL.2 ⟨hb, hrb⟩)
      refine ⟨partL (conE E a b) (u :: (L.filter fun v => v != b)) u :: qs, ?_, by simp [h2]⟩
      rw [eF] at eR ⊢
      refine .step u _ qs ?_
      rw [eR]
      exact h1
theorem rch_named {E X : Nat → Nat → Bool} {f : Nat → Nat} {M : List Nat} (hX : ∀ r j, r ∈ M → j ∈ M → X r j = E (f r) (f j)) (hf : ∀ r j, r ∈ M → j ∈ M → f r = f j → r = j) {u : Nat} (hu : u ∈ M) (x : Nat) (hx : x ∈ M) : Rch E (· ∈ M.map f) (f u) (f x) ↔ Rch X (· ∈ M) u x := by
  constructor
  · intro h
    have key : ∀ y, Rch E (· ∈ M.map f) (f u) y → ∃ z, z ∈ M ∧ y = f z ∧ Rch X (· ∈ M) u z := by
      refine rch_closed ⟨u, hu, rfl, .base⟩ fun a b ha hE hb => ?_
      obtain ⟨z, hzM, rfl, hz⟩ := ha
      obtain ⟨c, hc, rfl⟩ := List.mem_map.1 hb
      exact ⟨c, hc, rfl, .step hz (by rw [hX z c hzM hc]; exact hE) hc⟩
    obtain ⟨z, hzM, e, hz⟩ := key _ h
    rw [hf x z hx hzM e]
    exact hz
  · intro h
    have key : ∀ y, Rch X (· ∈ M) u y → y ∈ M ∧ Rch E (· ∈ M.map f) (f u) (f y) := by
      refine rch_closed ⟨hu, .base⟩ fun a b ha hE hb => ⟨hb, .step ha.2 (by rw [← hX a b ha.1 hb]; exact hE) (List.mem_map.2 ⟨b, hb, rfl⟩)⟩
    exact (key x h).2
theorem parts_named {E X : Nat → Nat → Bool} {f : Nat → Nat} {M : List Nat} {qs : List (List Nat)} (h : Parts X M qs) : (∀ r j, r ∈ M → j ∈ M → X r j = E (f r) (f j)) → (∀ r j, r ∈ M → j ∈ M → f r = f j → r = j) → Parts E (M.map f) (qs.map (List.map f)) := by
  induction h with
  | done => intro _ _; exact .done
  | step u M qs _ ih =>
    intro hX hf
    have hu : u ∈ u :: M := List.mem_cons_self ..
    have e1 : partL E ((u :: M).map f) (f u) = (partL X (u :: M) u).map f := by
      unfold partL
      rw [List.filter_map]
      congr 1
      exact List.filter_congr fun x hx => dec_congr (rch_named hX hf hu x hx)
    have e2 : restL E ((u :: M).map f) (f u) = (restL X (u :: M) u).map f := by
      unfold restL
      rw [List.filter_map]
      congr 1
      refine List.filter_congr fun x hx => ?_
      simp only [Function.comp]
      rw [dec_congr (rch_named hX hf hu x hx)]
    have hin : ∀ r, r ∈ restL X (u :: M) u → r ∈ u :: M := fun r h => (mem_restL.1 h).1
    have := Parts.step (E := E) (f u) (M.map f) (qs.map (List.map f)) (by rw [← List.map_cons (f := f), e2]; exact ih (fun r j h1 h2 => hX r j (hin r h1) (hin j h2)) fun r j h1 h2 => hf r j (hin r h1) (hin j h2))
    rw [← List.map_cons (f := f), e1] at this
    exact this

/-! ### How many edges -/
theorem con_cnt {n a b : Nat} {E : Nat → Nat → Bool} (hs : ∀ r j, E r j = true → E j r = true) (hi : ∀ r, E r r = false) (hab : a < b) (hb : b < n) (hE : E a b = true) :
    ((restN n b).map fun r => (restN n b).countP (conE E a b r)).sum + 2 ≤ totN n E := by
  have haR : a ∈ restN n b := mem_restN.2 ⟨by omega, by omega⟩
  have hbR : b ∈ List.range n := List.mem_range.2 hb
  have hdeg : ∀ r, degN n E r = (E r b).toNat + (restN n b).countP (E r) := fun r => countP_splitC (E r) List.nodup_range hbR
  unfold totN
  rw [sum_splitC (degN n E) List.nodup_range hbR]
  change _ ≤ degN n E b + ((restN n b).map (degN n E)).sum
  rw [sum_splitC (degN n E) (restN_nodup n b) haR, sum_splitC (fun r => (restN n b).countP (conE E a b r)) (restN_nodup n b) haR]
  have hba := hs _ _ hE
  have h1 : (restN n b).countP (conE E a b a) ≤ (restN n b).countP (E a) + (restN n b).countP (fun j => E b j && j != a) := by
    refine countP_orC fun x hx h => ?_
    simp only [conE, Bool.or_eq_true, Bool.and_eq_true, beq_iff_eq, bne_iff_ne] at h
    rcases h with (h | ⟨_, h2, h3⟩) | ⟨_, _, h⟩
    · exact .inl h
    · exact .inr (by simp [h2, h3])
    · exact absurd rfl h
  have h2 := countP_splitC (fun j => E b j && j != a) (restN_nodup n b) haR
  have h3 := countP_splitC (E b) (restN_nodup n b) haR
  have h4 : ((restN n b).filter fun v => v != a).countP (fun j => E b j && j != a) = ((restN n b).filter fun v => v != a).countP (E b) := by
    refine List.countP_congr fun x hx => ?_
    have := (List.mem_filter.1 hx).2
    simp [this]
  have h5 := hdeg a
  have h6 := hdeg b
  rw [hE] at h5
  rw [hi] at h6
  rw [hba] at h3
  simp at h2 h3 h5 h6
  have h7 : (((restN n b).filter fun v => v != a).map fun r => (restN n b).countP (conE E a b r)).sum ≤ (((restN n b).filter fun v => v != a).map (degN n E)).sum := by
    refine sum_leC fun r hr => ?_
    obtain ⟨hrR, hra⟩ := List.mem_filter.1 hr
    rw [bne_iff_ne] at hra
    rw [hdeg r]
    by_cases hrb : E r b = true
    · have h8 : (restN n b).countP (conE E a b r) ≤ (restN n b).countP (E r) + (restN n b).countP (fun j => j == a) := by
        refine countP_orC fun x hx h => ?_
        simp only [conE, Bool.or_eq_true, Bool.and_eq_true, beq_iff_eq, bne_iff_ne] at h
        rcases h with (h | ⟨h, _⟩) | ⟨h, _⟩
        · exact .inl h
        · exact absurd h hra
        · exact .inr (by simp [h])
      have h9 : (restN n b).countP (fun j => j == a) ≤ 1 := by
        have := List.nodup_iff_count.1 (restN_nodup n b) a
        exact this
      rw [hrb]
      simp
      omega
    · have h8 : (restN n b).countP (conE E a b r) ≤ (restN n b).countP (E r) := by
        refine List.countP_mono_left fun x hx h => ?_
        simp only [conE, Bool.or_eq_true, Bool.and_eq_true, beq_iff_eq, bne_iff_ne] at h
        rcases h with (h | ⟨h, _⟩) | ⟨_, h, _⟩
        · exact h
        · exact absurd h hra
        · exact absurd (hs _ _ h) hrb
      omega
  rw [h5] at *
  omega

/-! ### The contracted graph -/
def conG (g : List (List Int)) (a b : Nat) : List (List Int) := indL (matG g.length (conE (ofG g) a b)) (natInts (restN g.length b))
theorem conG_length {g : List (List Int)} {a b : Nat} (hb : b < g.length) : (conG g a b).length = g.length - 1 := by
  unfold conG indL
  rw [matG_length, natInts_length, restN_length hb]
theorem conG_get {g : List (List Int)} {a b i k : Nat} (hi : i < (restN g.length b).length) (hk : k < (restN g.length b).length) : ofG (conG g a b) i k = conE (ofG g) a b ((restN g.length b)[i]) ((restN g.length b)[k]) := by
  unfold conG indL
  rw [ofG_matG (by rw [natInts_length]; exact hi) (by rw [natInts_length]; exact hk), indE_nat hi hk, ofG_matG (mem_restN.1 (List.getElem_mem hi)).1 (mem_restN.1 (List.getElem_mem hk)).1]
theorem map_getC {L : List Nat} : (List.range L.length).map (fun i => L.getD i 0) = L := by
  refine List.ext_getElem (by simp) fun i h1 h2 => ?_
  simp only [List.getElem_map, List.getElem_range]
  rw [List.getD_eq_getElem?_getD, List.getElem?_eq_getElem h2]
  rfl
theorem conG_gok {g : List (List Int)} (hg : GOk g) {a b : Nat} (hab : a < b) (hb : b < g.length) : GOk (conG g a b) := by
  have h16 := hg.le
  unfold conG
  exact indL_gok (gok_matG hg.pos h16 (conE_sym (ofG_sym hg) a b) (conE_irr (ofG_irr hg) a b)) (fun v hv => by rw [matG_length]; exact (mem_restN.1 hv).1) (by rw [restN_length hb]; omega) (by rw [restN_length hb]; omega)
theorem conG_less {g : List (List Int)} (hg : GOk g) {a b : Nat} (hab : a < b) (hb : b < g.length) (hE : ofG g a b = true) : cntE (conG g a b) (conG g a b).length < cntE g g.length := by
  have h1 := two_cntE hg
  have hok : GOk (conG g a b) := conG_gok hg hab hb
  have h2 := two_cntE hok
  have h3 := con_cnt (ofG_sym hg) (ofG_irr hg) hab hb hE
  have hl : (conG g a b).length = (restN g.length b).length := by rw [conG_length hb, restN_length hb]
  have h4 : totN (conG g a b).length (ofG (conG g a b)) = ((restN g.length b).map fun r => (restN g.length b).countP (conE (ofG g) a b r)).sum := by
    unfold totN
    rw [hl]
    congr 1
    conv => rhs; rw [← map_getC (L := restN g.length b)]
    rw [List.map_map]
    refine List.map_congr_left fun i hi => ?_
    have hi := List.mem_range.1 hi
    unfold degN
    simp only [Function.comp]
    conv => rhs; rw [map_getC]
    have e := List.countP_map (p := conE (ofG g) a b ((restN g.length b).getD i 0)) (f := fun i => (restN g.length b).getD i 0) (l := List.range (restN g.length b).length)
    rw [map_getC] at e
    rw [e]
    refine List.countP_congr fun k hk => ?_
    have hk := List.mem_range.1 hk
    rw [conG_get hi hk]
    simp only [Function.comp, List.getD_eq_getElem?_getD, List.getElem?_eq_getElem hi, List.getElem?_eq_getElem hk, Option.getD_some]
  omega
theorem conG_parts {g : List (List Int)} (hg : GOk g) {a b : Nat} (hab : a < b) (hb : b < g.length) (hE : ofG g a b = true) {ps rs : List (List Nat)} (h : Parts (ofG g) (List.range g.length) ps) (hr : Parts (ofG (conG g a b)) (List.range (conG g a b).length) rs) : rs.length = ps.length := by
  obtain ⟨qs, h1, h2⟩ := parts_con (ofG_sym hg) hab hE h List.pairwise_lt_range (List.mem_range.2 (by omega)) (List.mem_range.2 hb)
  have hl : (conG g a b).length = (restN g.length b).length := by rw [conG_length hb, restN_length hb]
  rw [hl] at hr
  have h3 := parts_named (E := conE (ofG g) a b) (f := fun i => (restN g.length b).getD i 0) hr (fun r j h4 h5 => by
    have h4 := List.mem_range.1 h4
    have h5 := List.mem_range.1 h5
    rw [conG_get h4 h5]
    simp only [List.getD_eq_getElem?_getD, List.getElem?_eq_getElem h4, List.getElem?_eq_getElem h5, Option.getD_some]) (fun r j h4 h5 e => by
    have h4 := List.mem_range.1 h4
    have h5 := List.mem_range.1 h5
    simp only [List.getD_eq_getElem?_getD, List.getElem?_eq_getElem h4, List.getElem?_eq_getElem h5, Option.getD_some] at e
    exact rising_inj (restN_rising _ _) h4 h5 e)
  rw [map_getC] at h3
  have := parts_det h1 h3
  rw [this, List.length_map] at h2
  exact h2

end Go.Proofs.YtiooindlpinjhaaDoor
