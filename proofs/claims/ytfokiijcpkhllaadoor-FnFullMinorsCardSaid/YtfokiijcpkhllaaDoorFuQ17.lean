/- Plain: the complement of a graph, two graphs beside each other, two graphs joined: neighbours, parts, degrees. -/
import Derived.Test.YtfokiijcpkhllaaDoorFuQ16
import Derived.Test.YtfokiijcpkhllaaDoorFuQ7
import Derived.Test.YtfokiijcpkhllaaDoorFuQ6
namespace Go.Proofs.YtfokiijcpkhllaaDoor

def compE (E : Nat → Nat → Bool) : Nat → Nat → Bool := fun r j => !(r == j) && !E r j
def besE (n : Nat) (E F : Nat → Nat → Bool) : Nat → Nat → Bool := fun r j =>
  if r < n then decide (j < n) && E r j else decide (n ≤ j) && F (r - n) (j - n)
def joiE (n : Nat) (E F : Nat → Nat → Bool) : Nat → Nat → Bool := fun r j => besE n E F r j || (decide (r < n) != decide (j < n))

theorem ofG_matG {m : Nat} {E : Nat → Nat → Bool} {r j : Nat} (hr : r < m) (hj : j < m) : ofG (matG m E) r j = E r j := by
  unfold ofG
  cases h : E r j with
  | true => exact decide_eq_true ((mem_matG hr).2 ⟨j, rfl, hj, h⟩)
  | false =>
    refine decide_eq_false fun hm => ?_
    obtain ⟨k, e, _, h2⟩ := (mem_matG hr).1 hm
    obtain rfl : k = j := by omega
    rw [h] at h2
    exact absurd h2 (by decide)

theorem comp_sym {E : Nat → Nat → Bool} (h : ∀ r j, E r j = true → E j r = true) (r j : Nat) (hc : compE E r j = true) : compE E j r = true := by
  unfold compE at hc ⊢
  simp only [Bool.and_eq_true, Bool.not_eq_true', beq_eq_false_iff_ne] at hc ⊢
  refine ⟨fun e => hc.1 e.symm, ?_⟩
  cases h2 : E j r with
  | false => rfl
  | true =>
    rw [h _ _ h2] at hc
    exact absurd hc.2 (by decide)
theorem comp_irr (E : Nat → Nat → Bool) (r : Nat) : compE E r r = false := by simp [compE]
theorem bes_low {n : Nat} {E F : Nat → Nat → Bool} {r j : Nat} (hr : r < n) : besE n E F r j = (decide (j < n) && E r j) := by simp [besE, hr]
theorem bes_high {n : Nat} {E F : Nat → Nat → Bool} {r j : Nat} : besE n E F (n + r) j = (decide (n ≤ j) && F r (j - n)) := by
  unfold besE
  rw [if_neg (by omega), show n + r - n = r by omega]
theorem bes_sym {n : Nat} {E F : Nat → Nat → Bool} (h1 : ∀ r j, E r j = true → E j r = true) (h2 : ∀ r j, F r j = true → F j r = true) (r j : Nat) (hb : besE n E F r j = true) : besE n E F j r = true := by
  unfold besE at hb ⊢
  by_cases hr : r < n
  · rw [if_pos hr] at hb
    simp only [Bool.and_eq_true, decide_eq_true_eq] at hb
    rw [if_pos hb.1]
    simp [hr, h1 _ _ hb.2]
  · rw [if_neg hr] at hb
    simp only [Bool.and_eq_true, decide_eq_true_eq] at hb
    rw [if_neg (by omega)]
    simp only [Bool.and_eq_true, decide_eq_true_eq]
    exact ⟨by omega, h2 _ _ hb.2⟩
theorem bes_irr {n : Nat} {E F : Nat → Nat → Bool} (h1 : ∀ r, E r r = false) (h2 : ∀ r, F r r = false) (r : Nat) : besE n E F r r = false := by
  unfold besE
  split <;> simp [h1, h2]
theorem joi_sym {n : Nat} {E F : Nat → Nat → Bool} (h1 : ∀ r j, E r j = true → E j r = true) (h2 : ∀ r j, F r j = true → F j r = true) (r j : Nat) (hb : joiE n E F r j = true) : joiE n E F j r = true := by
  unfold joiE at hb ⊢
  rw [Bool.or_eq_true] at hb ⊢
  rcases hb with hb | hb
  · exact .inl (bes_sym h1 h2 _ _ hb)
  · right
    rw [bne_iff_ne] at hb ⊢
    exact fun e => hb e.symm
theorem joi_irr {n : Nat} {E F : Nat → Nat → Bool} (h1 : ∀ r, E r r = false) (h2 : ∀ r, F r r = false) (r : Nat) : joiE n E F r r = false := by
  unfold joiE
  rw [bes_irr h1 h2]
  simp

/-- The complement of two complements beside each other is the join. -/
theorem join_comp {n m : Nat} {E F : Nat → Nat → Bool} (h1 : ∀ r, E r r = false) (h2 : ∀ r, F r r = false) :
    matG (n + m) (compE (ofG (matG (n + m) (besE n (ofG (matG n (compE E))) (ofG (matG m (compE F))))))) = matG (n + m) (joiE n E F) := by
  refine matG_congr fun r j hr hj => ?_
  unfold compE
  rw [ofG_matG hr hj]
  unfold joiE besE
  by_cases hrn : r < n
  · by_cases hjn : j < n
    · rw [if_pos hrn, if_pos hrn, ofG_matG hrn hjn]
      by_cases e : r = j
      · subst e; simp [h1]
      · have e' : (r == j) = false := by simpa using e
        simp [hrn, hjn, e']
    · have e' : (r == j) = false := by simp; omega
      simp [hrn, hjn, e']
  · by_cases hjn : j < n
    · have e' : (r == j) = false := by simp; omega
      simp [hrn, hjn, e', show ¬ n ≤ j by omega]
    · rw [if_neg hrn, if_neg hrn, ofG_matG (by omega) (by omega)]
      by_cases e : r = j
      · subst e; simp [h2]
      · have e' : (r == j) = false := by simpa using e
        have e2 : ((r - n) == (j - n)) = false := by simp; omega
        simp [hrn, hjn, e', e2, show n ≤ j by omega]

/-- What is reached depends on the edges within alone. -/
theorem rch_congr {E E' : Nat → Nat → Bool} {S : Nat → Prop} {u : Nat} (hu : S u) (h : ∀ r j, S r → S j → E r j = E' r j) : ∀ x, Rch E S u x → Rch E' S u x := by
  intro x hx
  induction hx with
  | base => exact .base
  | step h1 h2 h3 ih => exact .step ih (by rw [← h _ _ (rch_in hu _ h1) h3]; exact h2) h3
theorem rch_congr' {E E' : Nat → Nat → Bool} {S : Nat → Prop} {u : Nat} (hu : S u) (h : ∀ r j, S r → S j → E r j = E' r j) (x : Nat) : Rch E S u x ↔ Rch E' S u x :=
  ⟨rch_congr hu h x, rch_congr hu (fun r j hr hj => (h r j hr hj).symm) x⟩
theorem partL_congr {E E' : Nat → Nat → Bool} {L : List Nat} {u : Nat} (hu : u ∈ L) (h : ∀ r j, r ∈ L → j ∈ L → E r j = E' r j) : partL E L u = partL E' L u :=
  List.filter_congr fun x _ => dec_congr (rch_congr' hu h x)
theorem restL_congr {E E' : Nat → Nat → Bool} {L : List Nat} {u : Nat} (hu : u ∈ L) (h : ∀ r j, r ∈ L → j ∈ L → E r j = E' r j) : restL E L u = restL E' L u :=
  List.filter_congr fun x _ => by rw [dec_congr (rch_congr' hu h x)]
theorem parts_congr {E E' : Nat → Nat → Bool} {L : List Nat} {ps : List (List Nat)} (h : Parts E L ps) : (∀ r j, r ∈ L → j ∈ L → E r j = E' r j) → Parts E' L ps := by
  induction h with
  | done => intro _; exact .done
  | step u L ps _ ih =>
    intro hc
    rw [partL_congr (List.mem_cons_self ..) hc]
    refine .step u L ps ?_
    rw [← restL_congr (List.mem_cons_self ..) hc]
    exact ih fun r j hr hj => hc r j (mem_restL.1 hr).1 (mem_restL.1 hj).1

/-- Reached among the upper ones. -/
theorem rch_high {n : Nat} {E F : Nat → Nat → Bool} {M : List Nat} {u : Nat} (x : Nat) : Rch (besE n E F) (· ∈ M.map (n + ·)) (n + u) (n + x) ↔ Rch F (· ∈ M) u x := by
  constructor
  · intro h
    have key : ∀ y, Rch (besE n E F) (· ∈ M.map (n + ·)) (n + u) y → ∃ z, y = n + z ∧ Rch F (· ∈ M) u z := by
      refine rch_closed ⟨u, rfl, .base⟩ fun a b ha hE hb => ?_
      obtain ⟨z, rfl, hz⟩ := ha
      obtain ⟨c, hc, rfl⟩ := List.mem_map.1 hb
      rw [bes_high, Bool.and_eq_true] at hE
      have h2 := hE.2
      rw [show n + c - n = c by omega] at h2
      exact ⟨c, rfl, .step hz h2 hc⟩
    obtain ⟨z, e, hz⟩ := key _ h
    obtain rfl : x = z := by omega
    exact hz
  · intro h
    induction h with
    | base => exact .base
    | @step a b h1 h2 h3 ih =>
      refine .step ih ?_ (List.mem_map.2 ⟨b, h3, rfl⟩)
      rw [bes_high, show n + b - n = b by omega, h2]
      simp
theorem parts_high {n : Nat} {E F : Nat → Nat → Bool} {M : List Nat} {qs : List (List Nat)} (h : Parts F M qs) : Parts (besE n E F) (M.map (n + ·)) (qs.map (List.map (n + ·))) := by
  induction h with
  | done => exact .done
  | step u M qs _ ih =>
    have e1 : partL (besE n E F) ((u :: M).map (n + ·)) (n + u) = (partL F (u :: M) u).map (n + ·) := by
      unfold partL
      rw [List.filter_map]
      congr 1
      exact List.filter_congr fun x _ => dec_congr (rch_high x)
    have e2 : restL (besE n E F) ((u :: M).map (n + ·)) (n + u) = (restL F (u :: M) u).map (n + ·) := by
      unfold restL
      rw [List.filter_map]
      congr 1
      refine List.filter_congr fun x _ => ?_
      simp only [Function.comp]
      rw [dec_congr (rch_high x)]
    have := Parts.step (E := besE n E F) (n + u) (M.map (n + ·)) (qs.map (List.map (n + ·))) (by rw [← List.map_cons (f := (n + ·)), e2]; exact ih)
    rw [← List.map_cons (f := (n + ·)), e1] at this
    exact this
theorem rch_low {n : Nat} {E F : Nat → Nat → Bool} {L M : List Nat} (hL : ∀ x ∈ L, x < n) {u : Nat} (hu : u ∈ L) (x : Nat) : Rch (besE n E F) (· ∈ L ++ M.map (n + ·)) u x ↔ Rch E (· ∈ L) u x := by
  constructor
  · intro h
    refine (rch_closed (T := fun x => x < n ∧ Rch E (· ∈ L) u x) ⟨hL u hu, .base⟩ (fun a b ha hE hb => ?_) x h).2
    rw [bes_low ha.1, Bool.and_eq_true, decide_eq_true_eq] at hE
    rcases List.mem_append.1 hb with h1 | h1
    · exact ⟨hE.1, .step ha.2 hE.2 h1⟩
    · obtain ⟨c, _, rfl⟩ := List.mem_map.1 h1
      omega
  · intro h
    induction h with
    | base => exact .base
    | @step a b h1 h2 h3 ih =>
      have ha := hL _ (rch_in (S := (· ∈ L)) hu _ h1)
      refine .step ih ?_ (List.mem_append_left _ h3)
      rw [bes_low ha, h2]
      simp [hL _ h3]
theorem parts_beside {n : Nat} {E F : Nat → Nat → Bool} {M : List Nat} {qs : List (List Nat)} (hq : Parts F M qs) {L : List Nat} {ps : List (List Nat)} (h : Parts E L ps) :
    (∀ x ∈ L, x < n) → Parts (besE n E F) (L ++ M.map (n + ·)) (ps ++ qs.map (List.map (n + ·))) := by
  induction h with
  | done => intro _; exact parts_high hq
  | step u L ps _ ih =>
    intro hL
    have e1 : partL (besE n E F) (u :: L ++ M.map (n + ·)) u = partL E (u :: L) u := by
      unfold partL
      rw [List.filter_append, List.filter_congr fun x _ => dec_congr (rch_low (M := M) hL (List.mem_cons_self ..) x)]
      have : (M.map (n + ·)).filter (fun x => dec (Rch (besE n E F) (· ∈ u :: L ++ M.map (n + ·)) u x)) = [] := by
        rw [List.filter_eq_nil_iff]
        intro x hx
        obtain ⟨c, _, rfl⟩ := List.mem_map.1 hx
        rw [dec_iff, rch_low hL (List.mem_cons_self ..)]
        intro hr
        have := hL _ (rch_in (S := (· ∈ u :: L)) (List.mem_cons_self ..) _ hr)
        omega
      rw [this, List.append_nil]
    have e2 : restL (besE n E F) (u :: L ++ M.map (n + ·)) u = restL E (u :: L) u ++ M.map (n + ·) := by
      unfold restL
      rw [List.filter_append]
      congr 1
      · exact List.filter_congr fun x _ => by rw [dec_congr (rch_low (M := M) hL (List.mem_cons_self ..) x)]
      · rw [List.filter_eq_self]
        intro x hx
        obtain ⟨c, _, rfl⟩ := List.mem_map.1 hx
        rw [Bool.not_eq_true', dec_false]
        rw [rch_low hL (List.mem_cons_self ..)]
        intro hr
        have := hL _ (rch_in (S := (· ∈ u :: L)) (List.mem_cons_self ..) _ hr)
        omega
    have := Parts.step (E := besE n E F) u (L ++ M.map (n + ·)) (ps ++ qs.map (List.map (n + ·))) (by
      rw [← List.cons_append, e2]
      exact ih fun x hx => hL x (mem_restL.1 hx).1)
    rw [← List.cons_append, e1] at this
    exact this
theorem range_beside (n m : Nat) : List.range (n + m) = List.range n ++ (List.range m).map (n + ·) := by rw [List.range_add]
/-- What stands beside has the parts of both. -/
theorem parts_sum {n m : Nat} {E F X : Nat → Nat → Bool} {ps qs rs : List (List Nat)} (hX : ∀ r j, r < n + m → j < n + m → X r j = besE n E F r j) (h1 : Parts E (List.range n) ps) (h2 : Parts F (List.range m) qs) (h3 : Parts X (List.range (n + m)) rs) : rs.length = ps.length + qs.length := by
  have h4 := parts_beside h2 h1 (n := n) (fun x hx => List.mem_range.1 hx)
  rw [← range_beside] at h4
  have h5 := parts_congr h3 fun r j hr hj => hX r j (List.mem_range.1 hr) (List.mem_range.1 hj)
  rw [parts_det h5 h4, List.length_append, List.length_map]
/-- What is joined is one part. -/
theorem parts_one {E : Nat → Nat → Bool} {L : List Nat} {u : Nat} {ps : List (List Nat)} (h : Parts E (u :: L) ps) (hr : ∀ x ∈ L, Rch E (· ∈ u :: L) u x) : ps.length = 1 := by
  cases h with
  | step _ _ ps h =>
    have e : restL E (u :: L) u = [] := by
      rw [List.eq_nil_iff_forall_not_mem]
      intro x hx
      have h1 := mem_restL.1 hx
      rcases List.mem_cons.1 h1.1 with rfl | h2
      · exact h1.2 .base
      · exact h1.2 (hr x h2)
    rw [e] at h
    cases h
    rfl
theorem parts_joined {n m : Nat} {E F X : Nat → Nat → Bool} {rs : List (List Nat)} (hn : 0 < n) (hm : 0 < m) (hX : ∀ r j, r < n + m → j < n + m → X r j = joiE n E F r j) (h : Parts X (List.range (n + m)) rs) : rs.length = 1 := by
  obtain ⟨k, hk⟩ : ∃ k, n + m = k + 1 := ⟨n + m - 1, by omega⟩
  have e : List.range (n + m) = 0 :: (List.range k).map Nat.succ := by rw [hk, List.range_succ_eq_map]
  have hmem : ∀ x, x < n + m → x ∈ 0 :: (List.range k).map Nat.succ := fun x hx => by rw [← e]; exact List.mem_range.2 hx
  rw [e] at h
  refine parts_one h fun x hx => ?_
  have hx2 : x < n + m := by
    have : x ∈ List.range (n + m) := by rw [e]; exact List.mem_cons_of_mem _ hx
    exact List.mem_range.1 this
  have hcross : ∀ r j, r < n + m → j < n + m → (r < n ↔ ¬ j < n) → X r j = true := fun r j hr hj hc => by
    rw [hX r j hr hj]
    unfold joiE
    by_cases h1 : r < n
    · simp [h1, hc.1 h1]
    · have : j < n := by
        by_cases h2 : j < n
        · exact h2
        · exact absurd (hc.2 h2) h1
      simp [h1, this]
  by_cases hxn : x < n
  · exact .step (.step .base (hcross 0 n (by omega) (by omega) ⟨fun _ => by omega, fun _ => hn⟩) (hmem n (by omega))) (hcross n x (by omega) hx2 ⟨fun _ => by omega, fun h => absurd hxn h⟩) (hmem x hx2)
  · exact .step .base (hcross 0 x (by omega) hx2 ⟨fun _ => hxn, fun _ => hn⟩) (hmem x hx2)

/-- The degrees beside each other. -/
theorem degN_low {n m : Nat} {E F X : Nat → Nat → Bool} (hX : ∀ r j, r < n + m → j < n + m → X r j = besE n E F r j) {v : Nat} (hv : v < n) : degN (n + m) X v = degN n E v := by
  unfold degN
  rw [range_beside, List.countP_append]
  have h1 : (List.range n).countP (X v) = (List.range n).countP (E v) := List.countP_congr fun x hx => by
    have := List.mem_range.1 hx
    rw [hX v x (by omega) (by omega), bes_low hv]
    simp [this]
  have h2 : ((List.range m).map (n + ·)).countP (X v) = 0 := List.countP_eq_zero.2 fun x hx => by
    obtain ⟨c, hc, rfl⟩ := List.mem_map.1 hx
    have := List.mem_range.1 hc
    rw [hX v _ (by omega) (by omega), bes_low hv]
    simp [show ¬ n + c < n by omega]
  omega
theorem degN_high {n m : Nat} {E F X : Nat → Nat → Bool} (hX : ∀ r j, r < n + m → j < n + m → X r j = besE n E F r j) {v : Nat} (hv : v < m) : degN (n + m) X (n + v) = degN m F v := by
  unfold degN
  rw [range_beside, List.countP_append, List.countP_map]
  have h1 : (List.range n).countP (X (n + v)) = 0 := List.countP_eq_zero.2 fun x hx => by
    have := List.mem_range.1 hx
    rw [hX _ x (by omega) (by omega), bes_high]
    simp; omega
  have h2 : (List.range m).countP (X (n + v) ∘ fun x => n + x) = (List.range m).countP (F v) := List.countP_congr fun x hx => by
    have := List.mem_range.1 hx
    simp only [Function.comp]
    rw [hX _ _ (by omega) (by omega), bes_high, show n + x - n = x by omega]
    simp
  omega
theorem totN_beside {n m : Nat} {E F X : Nat → Nat → Bool} (hX : ∀ r j, r < n + m → j < n + m → X r j = besE n E F r j) : totN (n + m) X = totN n E + totN m F := by
  unfold totN
  rw [range_beside, List.map_append, List.sum_append, List.map_map]
  congr 1
  · congr 1
    exact List.map_congr_left fun v hv => degN_low hX (List.mem_range.1 hv)
  · congr 1
    exact List.map_congr_left fun v hv => degN_high hX (List.mem_range.1 hv)
/-- The first vertices of what stands beside are the first graph. -/
theorem ind_beside {n m : Nat} {E F : Nat → Nat → Bool} : indL (matG (n + m) (besE n E F)) (allL n) = matG n E := by
  unfold indL
  rw [allL_length]
  refine matG_congr fun r j hr hj => ?_
  have hg : ∀ k, k < n → (allL n).getD k 0 = (k : Int) := fun k hk => by simp [allL, hk]
  unfold indE
  rw [hg r hr, hg j hj, Int.toNat_natCast]
  have := ofG_matG (E := besE n E F) (show r < n + m by omega) (show j < n + m by omega)
  unfold ofG at this
  rw [this, bes_low hr]
  simp [hj]

end Go.Proofs.YtfokiijcpkhllaaDoor

/- Walks: the reference's complement of a right graph. -/
namespace Go.Proofs.YtfokiijcpkhllaaDoor
open Go.RowKit

theorem symE_comp {g : List (List Int)} (hg : GOk g) : SymE g.length (compE (ofG g)) where
  sym := fun r j _ _ => by
    cases h : compE (ofG g) r j with
    | true => exact (comp_sym (ofG_sym hg) r j h).symm
    | false =>
      cases h2 : compE (ofG g) j r with
      | false => rfl
      | true => rw [comp_sym (ofG_sym hg) j r h2] at h; exact absurd h (by decide)
  irr := fun r _ => comp_irr _ r

set_option maxRecDepth 100000 in
set_option maxHeartbeats 4000000 in
theorem l2Other_any (v : Value) (g : List (List Int)) (hok : GOk g) (w : World) (hg : Gr w v g) :
    Calls Tryd.prog 81 #[v] w fun e w' => ∃ u, e = .returned u ∧ SG w' w.heap.size u (matG g.length (compE (ofG g))) ∧ Below w.heap.size w w' := by
  have hg0 := hg
  obtain ⟨u, rfl, hr⟩ := hg
  obtain ⟨gp, gc, rfl, _⟩ := hr.shape
  obtain ⟨W0, hW0⟩ : ∃ W0, W0 = (w.alloc (.cells #[.slice gp g.length gc] 29)).alloc (.cells #[.slice none 0 0] 29) := ⟨_, rfl⟩
  have hb0 : Below w.heap.size w W0 := by rw [hW0]; exact below_alloc2 _ _ _
  have hbg : Box W0 w.heap.size 29 (.slice gp g.length gc) := by rw [hW0]; exact (Box.new _ _ _).alloc _
  have hbn : Box W0 (w.heap.size + 1) 29 (.slice none 0 0) := by
    have := Box.new (w.alloc (.cells #[.slice gp g.length gc] 29)) (.slice none 0 0) 29
    rw [size_alloc] at this
    rw [hW0]; exact this
  have HW0 := Lib.hid hW0
  have HB0 := Lib.hid hb0
  have HBG := Lib.hid hbg
  have HBN := Lib.hid hbn
  have HG := Lib.hid (hg0.below hb0)
  have sz0 : W0.heap.size = w.heap.size + 2 := by rw [hW0, size_alloc, size_alloc]
  have h16 := hok.le
  have HSE := Lib.hid (symE_comp hok)
  have HOK := Lib.hid hok
  have cg0 := hbg.cell
  clear hr hg0 hb0 hbg hbn hok
  go_enter Tryd.func81, Tryd.ntmps81
  go_upto_region 1 with fail
  rw [← hW0]
  clear hW0
  go_upto_region 2 with (first
    | (go_at_call 102; refine (l1Empty_any _ g.length rfl (by omega) _).mono ?_; rintro e w3 ⟨u3, rfl, hs3, hb3⟩; obtain ⟨p, c, rfl⟩ := hs3.shape; rw [List.length_replicate] at hs3 ⊢)
    | (go_at_call 60; refine (l1Size_any _ g _ HG.out).mono ?_; rintro e w2 ⟨rfl, hb2⟩))
  have START : Hid (L2I W0 (w3.alloc (.cells #[.slice p g.length c] 29)) w3.heap.size p c g.length (matG g.length (uptoE (compE (ofG g)) 0 0))) := Lib.hid
    ⟨by rw [upto_start]; exact (hs3.base hb2.size).below (below_alloc _ _), (hb2.trans (hb3.mono hb2.size)).alloc (Nat.le_trans hb2.size hb3.size) _, Box.new _ _ _, fun k hk => ⟨Nat.le_trans hb2.size (hs3.lt k hk).1, (hs3.lt k hk).2⟩, Nat.le_trans hb2.size hb3.size⟩
  clear hs3 hb3 hb2 cg0
  go_wp2_with fail
  go_loopw [4] (fun i wr => ∃ k : Nat, k ≤ g.length ∧ i = .int .i64 k ∧ L2I W0 wr w3.heap.size p c g.length (matG g.length (uptoE (compE (ofG g)) k 0))) (fun i _ => g.length - (intOf i).toNat)
  case atStart => exact ⟨0, Nat.zero_le _, rfl, START.out⟩
  case round =>
    clear START
    obtain ⟨i, hi, rfl, hI⟩ := hrel
    have HI := Lib.hid hI
    clear hI
    have hcg := HI.out.bel.at (by omega) HBG.out.cell
    by_cases hlt : i < g.length
    · go_wp2_with (go_at_call 60; refine (l1Size_any _ g _ (HG.out.below HI.out.bel)).mono ?_; rintro e w4 ⟨rfl, hb4⟩; have HI4 := Lib.hid (HI.out.next hb4); clear hb4)
      clear hcg HI
      go_loopw [5] (fun i' wr => ∃ k : Nat, k ≤ i ∧ i' = .int .i64 k ∧ L2I W0 wr w3.heap.size p c g.length (matG g.length (uptoE (compE (ofG g)) i k))) (fun i' _ => i - (intOf i').toNat)
      case atStart => exact ⟨0, Nat.zero_le _, rfl, HI4.out⟩
      case round =>
        clear HI4
        obtain ⟨k, hk, rfl, hI⟩ := hrel
        have HI := Lib.hid hI
        clear hI
        by_cases hlt2 : k < i
        · have hcg := HI.out.bel.at (by omega) HBG.out.cell
          have hedge : Hid (dec ((i : Int) ∈ row g k) = !compE (ofG g) i k) := Lib.hid (by
            have h1 : ofG g i k = ofG g k i := by
              cases h : ofG g k i with
              | true => exact ofG_sym HOK.out _ _ h
              | false =>
                cases h2 : ofG g i k with
                | false => rfl
                | true => rw [ofG_sym HOK.out _ _ h2] at h; exact absurd h (by decide)
            have h2 : (i == k) = false := by simp; omega
            unfold compE
            rw [h2, h1]
            simp [ofG, decide_dec])
          have hkg : k < g.length := by omega
          have hml := matG_length g.length (uptoE (compE (ofG g)) i k)
          cases hE' : compE (ofG g) i k
          · have HD := Lib.hid (show dec ((i : Int) ∈ row g k) = true by rw [hedge.out, hE']; rfl)
            clear hedge
            go_wp2_with (go_at_call 116; refine (l1Edge_any _ g _ _ k i rfl rfl hkg _ (HG.out.below HI.out.bel)).mono ?_; rintro e w5 ⟨he, hb5⟩; rw [HD.out] at he; subst he; have HI5 := Lib.hid (HI.out.next hb5); clear hb5)
            go_roundw
            case rel => exact ⟨k + 1, by omega, by go_num, by rw [← upto_no HSE.out (by omega) hlt2 hE']; exact HI5.out⟩
            case measure => simp [intOf]; omega
          · have HD := Lib.hid (show dec ((i : Int) ∈ row g k) = false by rw [hedge.out, hE']; rfl)
            clear hedge
            go_wp2_with (first
              | (go_at_call 104; refine (Hlk.out _ rfl).mono ?_; rintro e w6 ⟨rfl, hs6, hg6⟩; have hbx := HI5.out.box.grown hg6 (fun e => by have := (HI5.out.own _ e.symm).2; omega); have hc6 := hbx.cell; have hf6 := hbx.free)
              | (go_at_call 116; refine (l1Edge_any _ g _ _ k i rfl rfl hkg _ (HG.out.below HI.out.bel)).mono ?_; rintro e w5 ⟨he, hb5⟩; rw [HD.out] at he; subst he; have HI5 := Lib.hid (HI.out.next hb5); clear hb5; have hb5 := HI5.out.box.cell; have hf5 := HI5.out.box.free; (have hlk : ∀ wz, wz = w5 → Calls Tryd.prog 104 #[.agg #[.slice p g.length c], .int .i64 k, .int .i64 i] wz fun e w' => e = .returned (.agg #[.slice p g.length c]) ∧ SG w' W0.heap.size (.agg #[.slice p g.length c]) (matG g.length (uptoE (compE (ofG g)) i (k + 1))) ∧ wz.grownBy w' (Value.slice p g.length c).ownBlock := (by
                  rintro wz rfl
                  have := l1Link_any p c (matG g.length (uptoE (compE (ofG g)) i k)) k i k i W0.heap.size rfl rfl (by omega) (by omega) (fun j _ => Nat.le_trans (matG_row_le j) (by omega)) wz (by rw [hml]; exact HI5.out.sg)
                  rw [hml, upto_yes HSE.out (by omega) hlt2 hE'] at this
                  exact this)); have Hlk := Lib.hid hlk; clear hlk))
            go_roundw
            case rel => exact ⟨k + 1, by omega, by go_num, HI5.out.link hs6 hg6⟩
            case measure => simp [intOf]; omega
        · obtain rfl : k = i := by omega
          go_wp2
          go_roundw
          case rel => exact ⟨k + 1, by omega, by go_num, by rw [← upto_row HSE.out]; exact HI.out⟩
          case measure => simp [intOf]; omega
    · obtain rfl : i = g.length := by omega
      go_wp2_with (go_at_call 60; refine (l1Size_any _ g _ (HG.out.below HI.out.bel)).mono ?_; rintro e w4 ⟨rfl, hb4⟩; have HI4 := Lib.hid (HI.out.next hb4); clear hb4; have hb5 := HI4.out.box.cell; have hbn := HI4.out.bel.at (by omega) HBN.out.cell; have hbf := (HI4.out.bel.frozen (p := ⟨w.heap.size + 1, 0, none⟩) (by show w.heap.size + 1 < _; omega)).trans HBN.out.free)
      have hbn2 := HBN.out.below HI4.out.bel (by omega)
      refine bodyPost_ret (v := .agg #[.slice p g.length c]) (by simp [results, Tryd.results81, go_sem, hbn]) rfl ⟨_, rfl, ?_, ?_⟩
      · have hs := (HI4.out.sg.setBox hbn2 (.slice p g.length c)).base (base' := w.heap.size) (by omega)
        rw [upto_end] at hs
        exact hs
      · exact (HB0.out.trans (HI4.out.bel.mono HB0.out.size)).setCell (by show w.heap.size ≤ w.heap.size + 1; omega) _



end Go.Proofs.YtfokiijcpkhllaaDoor

/- Plain: sets of so many, in the order of their lists; the least set that fits. -/
namespace Go.Proofs.YtfokiijcpkhllaaDoor

/-- The order of lists: where they part first says it. -/
def lexL : List Nat → List Nat → Prop
  | [], [] => False
  | [], _ :: _ => True
  | _ :: _, [] => False
  | a :: l, b :: m => a < b ∨ (a = b ∧ lexL l m)
theorem lexL_tri : ∀ a b : List Nat, ¬ lexL a b → ¬ lexL b a → a = b
  | [], [], _, _ => rfl
  | [], _ :: _, h, _ => absurd trivial h
  | _ :: _, [], _, h => absurd trivial h
  | a :: l, b :: m, h, k => by
    simp only [lexL, not_or, not_and] at h k
    obtain rfl : a = b := by omega
    rw [lexL_tri l m (h.2 rfl) (k.2 rfl)]
theorem lexL_trans : ∀ {a b c : List Nat}, lexL a b → lexL b c → lexL a c
  | _, [], [], _, k => k.elim
  | _, _ :: _, [], _, k => k.elim
  | [], _, _ :: _, _, _ => trivial
  | _ :: _, [], _, h, _ => h.elim
  | a :: l, b :: m, c :: o, h, k => by
    simp only [lexL] at h k ⊢
    rcases h with h | ⟨rfl, h⟩ <;> rcases k with k | ⟨rfl, k⟩
    · exact .inl (by omega)
    · exact .inl h
    · exact .inl k
    · exact .inr ⟨rfl, lexL_trans h k⟩
theorem lexL_irrefl : ∀ a : List Nat, ¬ lexL a a
  | [], h => h
  | a :: l, h => by
    simp only [lexL] at h
    rcases h with h | ⟨_, h⟩
    · omega
    · exact lexL_irrefl l h
/-- Shorter ones first, then by the order of lists. -/
def lessP (a b : List Nat) : Prop := a.length < b.length ∨ (a.length = b.length ∧ lexL a b)
theorem lessP_tri {a b : List Nat} (h : ¬ lessP a b) (k : ¬ lessP b a) : a = b := by
  simp only [lessP, not_or, not_and] at h k
  have e : a.length = b.length := by omega
  exact lexL_tri a b (h.2 e) (k.2 e.symm)
theorem lessP_trans {a b c : List Nat} (h : lessP a b) (k : lessP b c) : lessP a c := by
  rcases h with h | ⟨h1, h⟩ <;> rcases k with k | ⟨k1, k⟩
  · exact .inl (by omega)
  · exact .inl (by omega)
  · exact .inl (by omega)
  · exact .inr ⟨by omega, lexL_trans h k⟩
theorem lessP_irrefl (a : List Nat) : ¬ lessP a a := by
  rintro (h | ⟨_, h⟩)
  · omega
  · exact lexL_irrefl a h

theorem mask_cons (v : Nat) (T : List Nat) : mask (natInts (v :: T)) = 2 ^ v ||| mask (natInts T) := by
  refine Nat.eq_of_testBit_eq fun j => ?_
  rw [Nat.testBit_or, mask_bit, mask_bit, Nat.testBit_two_pow, Bool.eq_iff_iff, Bool.or_eq_true, decide_eq_true_iff, decide_eq_true_iff, decide_eq_true_iff, List.mem_cons]
  exact or_congr ⟨fun h => h.symm, fun h => h.symm⟩ Iff.rfl
theorem bitsOf_maskN {T : List Nat} (h : T.Pairwise (· < ·)) (h16 : ∀ x ∈ T, x < 16) : bitsOf (mask (natInts T)) = T :=
  rising_ext _ _ (bitsOf_rising _) h fun x => by
    rw [mem_bitsOf' (Nat.lt_trans (mask_nat_lt16 h16) (by decide)), mask_bit]
    simp
theorem mask_bitsOf {s : Nat} (h : s < 65536) : mask (natInts (bitsOf s)) = s := by
  refine Nat.eq_of_testBit_eq fun j => ?_
  rw [mask_bit, Bool.eq_iff_iff, decide_eq_true_iff, mem_bitsOf' (by omega)]

/-- So many from a first one on, below n. -/
structure Cand (n lo many : Nat) (T : List Nat) : Prop where
  ris : T.Pairwise (· < ·)
  inn : ∀ x ∈ T, lo ≤ x ∧ x < n
  len : T.length = many
theorem rising_room : ∀ {T : List Nat} {lo n : Nat}, T.Pairwise (· < ·) → (∀ x ∈ T, lo ≤ x ∧ x < n) → T ≠ [] → lo + T.length ≤ n
  | [], _, _, _, _, h => absurd rfl h
  | [x], lo, n, _, h, _ => by
    have := h x (by simp)
    simp
    omega
  | x :: y :: T, lo, n, h, k, _ => by
    have := rising_room (T := y :: T) (lo := lo + 1) (n := n) h.of_cons (fun z hz => ⟨by
      have h1 := (List.pairwise_cons.1 h).1 z hz
      have := k x (by simp)
      omega, (k z (List.mem_cons_of_mem _ hz)).2⟩) (by simp)
    simp at this ⊢
    omega
/-- None of them fits, put to a set. -/
def ChNo (P : Nat → Prop) (n lo many chosen : Nat) : Prop := ∀ T, Cand n lo many T → ¬ P (chosen ||| mask (natInts T))
/-- s is made by the first one that fits. -/
def ChYes (P : Nat → Prop) (n lo many chosen s : Nat) : Prop := ∃ T, Cand n lo many T ∧ s = chosen ||| mask (natInts T) ∧ P s ∧ ∀ T', Cand n lo many T' → lexL T' T → ¬ P (chosen ||| mask (natInts T'))
/-- None whose first is below v. -/
def ChTo (P : Nat → Prop) (n lo many chosen v : Nat) : Prop := ∀ x T, Cand n lo many (x :: T) → x < v → ¬ P (chosen ||| mask (natInts (x :: T)))
theorem cand_zero {n lo : Nat} {T : List Nat} (h : Cand n lo 0 T) : T = [] := List.eq_nil_of_length_eq_zero h.len
theorem cand_nil (n lo : Nat) : Cand n lo 0 [] := ⟨by simp, by simp, rfl⟩
theorem mask_nil0 : mask (natInts []) = 0 := rfl
theorem chNo_zero {P : Nat → Prop} {n lo chosen : Nat} (h : ¬ P chosen) : ChNo P n lo 0 chosen := fun T hT => by
  obtain rfl := cand_zero hT
  rw [mask_nil0, Nat.or_zero]
  exact h
theorem chYes_zero {P : Nat → Prop} {n lo chosen : Nat} (h : P chosen) : ChYes P n lo 0 chosen chosen :=
  ⟨[], cand_nil n lo, by rw [mask_nil0, Nat.or_zero], h, fun T' h1 h2 => by
    obtain rfl := cand_zero h1
    exact h2.elim⟩
theorem chTo_start (P : Nat → Prop) (n lo many chosen : Nat) : ChTo P n lo many chosen lo := fun x T h hx => by
  have := (h.inn x (by simp)).1
  omega
theorem Cand.tail {n lo many x : Nat} {T : List Nat} (h : Cand n lo (many + 1) (x :: T)) : Cand n (x + 1) many T :=
  ⟨h.ris.of_cons, fun y hy => ⟨(List.pairwise_cons.1 h.ris).1 y hy, (h.inn y (List.mem_cons_of_mem _ hy)).2⟩, by have := h.len; simpa using this⟩
theorem Cand.cons {n lo many x : Nat} {T : List Nat} (h : Cand n (x + 1) many T) (h1 : lo ≤ x) (h2 : x < n) : Cand n lo (many + 1) (x :: T) :=
  ⟨List.pairwise_cons.2 ⟨fun y hy => (h.inn y hy).1, h.ris⟩, fun y hy => by
    rcases List.mem_cons.1 hy with rfl | hy
    · exact ⟨h1, h2⟩
    · have := h.inn y hy
      omega, by simp [h.len]⟩
theorem chTo_step {P : Nat → Prop} {n lo many chosen v : Nat} (h : ChTo P n lo (many + 1) chosen v) (k : ChNo P n (v + 1) many (chosen ||| 2 ^ v)) : ChTo P n lo (many + 1) chosen (v + 1) := fun x T hc hx => by
  by_cases hv : x < v
  · exact h x T hc hv
  · obtain rfl : x = v := by omega
    rw [mask_cons, ← Nat.or_assoc]
    exact k T hc.tail
theorem chYes_step {P : Nat → Prop} {n lo many chosen v s : Nat} (h : ChTo P n lo (many + 1) chosen v) (h1 : lo ≤ v) (h2 : v < n) (k : ChYes P n (v + 1) many (chosen ||| 2 ^ v) s) : ChYes P n lo (many + 1) chosen s := by
  obtain ⟨T, hT, hs, hP, hb⟩ := k
  refine ⟨v :: T, hT.cons h1 h2, by rw [hs, mask_cons, Nat.or_assoc], hP, fun T' hT' hl => ?_⟩
  cases T' with
  | nil => exact absurd hT'.len (by simp)
  | cons x T1 =>
    rcases hl with hl | ⟨rfl, hl⟩
    · exact h x T1 hT' hl
    · rw [mask_cons, ← Nat.or_assoc]
      exact hb T1 hT'.tail hl
theorem chNo_end {P : Nat → Prop} {n lo many chosen v : Nat} (h : ChTo P n lo (many + 1) chosen v) (hv : n < v + (many + 1)) : ChNo P n lo (many + 1) chosen := fun T hT => by
  cases T with
  | nil => exact absurd hT.len (by simp)
  | cons x T1 =>
    refine h x T1 hT ?_
    have h1 := rising_room (T := x :: T1) (lo := x) (n := n) hT.ris (fun y hy => ⟨by
      rcases List.mem_cons.1 hy with rfl | hy
      · exact Nat.le_refl _
      · exact Nat.le_of_lt ((List.pairwise_cons.1 hT.ris).1 y hy), (hT.inn y hy).2⟩) (by simp)
    rw [hT.len] at h1
    omega
theorem cand_bits {n s : Nat} (hn : n ≤ 16) (hs : s < 2 ^ n) : Cand n 0 (bitsOf s).length (bitsOf s) ∧ s < 65536 := by
  have h16 : s < 65536 := Nat.lt_of_lt_of_le hs (by
    calc 2 ^ n ≤ 2 ^ 16 := Nat.pow_le_pow_right (by decide) hn
      _ = 65536 := by decide)
  refine ⟨⟨bitsOf_rising s, fun x hx => ⟨Nat.zero_le _, ?_⟩, rfl⟩, h16⟩
  rw [mem_bitsOf' (by omega)] at hx
  refine Nat.lt_of_not_le fun hge => ?_
  have := Nat.testBit_lt_two_pow (Nat.lt_of_lt_of_le hs (Nat.pow_le_pow_right (by decide) hge) : s < 2 ^ x)
  rw [this] at hx
  exact nomatch hx
theorem cand_lt {n many : Nat} {T : List Nat} (h : Cand n 0 many T) : mask (natInts T) < 2 ^ n := by
  refine Nat.lt_pow_two_of_testBit _ fun j hj => ?_
  rw [mask_bit, decide_eq_false_iff_not]
  intro hm
  have := (h.inn j hm).2
  omega
/-- The least set that fits. -/
def LeastP (P : Nat → Prop) (n s : Nat) : Prop := s < 2 ^ n ∧ P s ∧ ∀ t, t < 2 ^ n → P t → ¬ lessP (bitsOf t) (bitsOf s)
theorem leastP_det {P : Nat → Prop} {n s t : Nat} (hn : n ≤ 16) (h : LeastP P n s) (k : LeastP P n t) : s = t := by
  have e := lessP_tri (k.2.2 s h.1 h.2.1) (h.2.2 t k.1 k.2.1)
  rw [← mask_bitsOf (cand_bits hn h.1).2, ← mask_bitsOf (cand_bits hn k.1).2, e]
theorem least_ch {P : Nat → Prop} {n many s : Nat} (hn : n ≤ 16) (hno : ∀ m, m < many → ChNo P n 0 m 0) (hy : ChYes P n 0 many 0 s) : LeastP P n s := by
  obtain ⟨T, hT, hs, hP, hb⟩ := hy
  rw [Nat.zero_or] at hs
  subst hs
  have hlt := cand_lt hT
  refine ⟨hlt, hP, fun t ht hPt hl => ?_⟩
  obtain ⟨hc, h16⟩ := cand_bits hn ht
  rw [bitsOf_maskN hT.ris fun x hx => by have := (hT.inn x hx).2; omega] at hl
  rcases hl with hl | ⟨hl, hx⟩
  · rw [hT.len] at hl
    exact hno _ hl _ hc (by rw [Nat.zero_or, mask_bitsOf h16]; exact hPt)
  · rw [hT.len] at hl
    rw [hl] at hc
    exact hb _ hc hx (by rw [Nat.zero_or, mask_bitsOf h16]; exact hPt)
theorem none_ch {P : Nat → Prop} {n : Nat} (hn : n ≤ 16) (hno : ∀ m, m < n + 1 → ChNo P n 0 m 0) : ∀ t, t < 2 ^ n → ¬ P t := fun t ht hP => by
  obtain ⟨hc, h16⟩ := cand_bits hn ht
  have hlen : (bitsOf t).length < n + 1 := by
    by_cases he : bitsOf t = []
    · rw [he]; simp
    · have := rising_room hc.ris hc.inn he
      omega
  exact hno _ hlen _ hc (by rw [Nat.zero_or, mask_bitsOf h16]; exact hP)

/-- The reference's best one of those numbered below k. -/
def BestP (P : Nat → Prop) (k : Nat) (best : List Nat) : Prop := (best = [] ∧ ∀ j, j < k → ¬ P j) ∨ ∃ s, s < k ∧ P s ∧ best = bitsOf s ∧ best ≠ [] ∧ ∀ j, j < k → P j → ¬ lessP (bitsOf j) best
theorem best_start {P : Nat → Prop} (h0 : ¬ P 0) : BestP P 1 [] := .inl ⟨rfl, fun j hj => by
  obtain rfl : j = 0 := by omega
  exact h0⟩
theorem best_keep {P : Nat → Prop} {k : Nat} {best : List Nat} (h : BestP P k best) (hk : ¬ P k ∨ (best ≠ [] ∧ ¬ lessP (bitsOf k) best)) : BestP P (k + 1) best := by
  rcases h with ⟨rfl, h⟩ | ⟨s, h1, h2, h3, h4, h5⟩
  · refine .inl ⟨rfl, fun j hj => ?_⟩
    by_cases e : j < k
    · exact h j e
    · obtain rfl : j = k := by omega
      rcases hk with hk | hk
      · exact hk
      · exact absurd rfl hk.1
  · refine .inr ⟨s, by omega, h2, h3, h4, fun j hj hP => ?_⟩
    by_cases e : j < k
    · exact h5 j e hP
    · obtain rfl : j = k := by omega
      rcases hk with hk | hk
      · exact absurd hP hk
      · exact hk.2
theorem best_new {P : Nat → Prop} {k : Nat} {best : List Nat} (h : BestP P k best) (hk : P k) (hne : bitsOf k ≠ []) (hl : best = [] ∨ lessP (bitsOf k) best) : BestP P (k + 1) (bitsOf k) := by
  refine .inr ⟨k, by omega, hk, rfl, hne, fun j hj hP hlt => ?_⟩
  by_cases e : j < k
  · rcases h with ⟨rfl, h⟩ | ⟨s, h1, h2, h3, h4, h5⟩
    · exact h j e hP
    · rcases hl with hl | hl
      · exact h4 hl
      · exact h5 j e hP (lessP_trans hlt hl)
  · obtain rfl : j = k := by omega
    exact lessP_irrefl _ hlt
theorem best_end {P : Nat → Prop} {n : Nat} {best : List Nat} (h : BestP P (2 ^ n) best) : (best = [] ∧ ∀ t, t < 2 ^ n → ¬ P t) ∨ (best ≠ [] ∧ ∃ s, LeastP P n s ∧ best = bitsOf s) := by
  rcases h with h | ⟨s, h1, h2, h3, h4, h5⟩
  · exact .inl h
  · exact .inr ⟨h4, s, ⟨h1, h2, fun t ht hP => by rw [← h3]; exact h5 t ht hP⟩, h3⟩

end Go.Proofs.YtfokiijcpkhllaaDoor

/- Plain: the modules, in the order of size and of lists. -/
namespace Go.Proofs.YtfokiijcpkhllaaDoor

/-- Two strictly sorted lists with the same members are one. -/
theorem sorted_ext {α : Type} (lt : α → α → Prop) (hirr : ∀ x, ¬ lt x x) (htr : ∀ {x y z}, lt x y → lt y z → lt x z) : ∀ (l m : List α), l.Pairwise lt → m.Pairwise lt → (∀ x, x ∈ l ↔ x ∈ m) → l = m
  | [], [], _, _, _ => rfl
  | [], b :: m, _, _, h => absurd ((h b).2 (by simp)) (by simp)
  | a :: l, [], _, _, h => absurd ((h a).1 (by simp)) (by simp)
  | a :: l, b :: m, hl, hm, h => by
    have hla := List.pairwise_cons.1 hl
    have hmb := List.pairwise_cons.1 hm
    have hab : a = b := by
      rcases List.mem_cons.1 ((h a).1 (by simp)) with e | h1
      · exact e
      · rcases List.mem_cons.1 ((h b).2 (by simp)) with e | h2
        · exact e.symm
        · exact absurd (htr (hla.1 b h2) (hmb.1 a h1)) (hirr a)
    subst hab
    rw [sorted_ext lt hirr htr l m hla.2 hmb.2 fun x => ?_]
    constructor
    · intro hx
      rcases List.mem_cons.1 ((h x).1 (List.mem_cons_of_mem _ hx)) with e | h1
      · subst e
        exact absurd (hla.1 x hx) (hirr x)
      · exact h1
    · intro hx
      rcases List.mem_cons.1 ((h x).2 (List.mem_cons_of_mem _ hx)) with e | h1
      · subst e
        exact absurd (hmb.1 x hx) (hirr x)
      · exact h1

/-- No vertex outside splits the set. -/
def ModN (g : List (List Int)) (s : Nat) : Prop := ∀ v, v < g.length → s.testBit v = false → mask (row g v) &&& s = 0 ∨ mask (row g v) &&& s = s
/-- The sets numbered below k that are modules, sorted. -/
structure MdOn (P : Nat → Prop) (k : Nat) (L : List (List Nat)) : Prop where
  srt : L.Pairwise lessP
  mem : ∀ x, x ∈ L ↔ ∃ s, 1 ≤ s ∧ s < k ∧ P s ∧ x = bitsOf s
theorem mdOn_start (P : Nat → Prop) : MdOn P 1 [] := ⟨by simp, fun x => by
  constructor
  · intro h; simp at h
  · rintro ⟨s, h1, h2, _⟩; omega⟩
theorem mdOn_skip {P : Nat → Prop} {k : Nat} {L : List (List Nat)} (h : MdOn P k L) (hk : ¬ P k) : MdOn P (k + 1) L := ⟨h.srt, fun x => by
  rw [h.mem]
  constructor
  · rintro ⟨s, h1, h2, h3, h4⟩
    exact ⟨s, h1, by omega, h3, h4⟩
  · rintro ⟨s, h1, h2, h3, h4⟩
    by_cases e : s = k
    · subst e; exact absurd h3 hk
    · exact ⟨s, h1, by omega, h3, h4⟩⟩
theorem mdOn_put {P : Nat → Prop} {k i : Nat} {L : List (List Nat)} (h : MdOn P k L) (hk : P k) (h1 : 1 ≤ k) (hk16 : k < 65536) (hi : i ≤ L.length)
    (hhi : ∀ j (hj : j < L.length), i ≤ j → lessP (bitsOf k) L[j]) (hlo : ∀ (h0 : 0 < i), ¬ lessP (bitsOf k) (L[i - 1]'(by omega))) : MdOn P (k + 1) (L.take i ++ [bitsOf k] ++ L.drop i) := by
  have hnew : bitsOf k ∉ L := fun hm => by
    obtain ⟨s, _, h2, _, h4⟩ := (h.mem _).1 hm
    have e : mask (natInts (bitsOf k)) = mask (natInts (bitsOf s)) := by rw [h4]
    rw [mask_bitsOf hk16, mask_bitsOf (by omega)] at e
    omega
  have hlow : ∀ x ∈ L.take i, lessP x (bitsOf k) := by
    intro x hx
    obtain ⟨j, hj, rfl⟩ := List.getElem_of_mem hx
    rw [List.length_take] at hj
    rw [List.getElem_take]
    have h0 : 0 < i := by omega
    have hl := hlo h0
    have hlast : lessP (L[i - 1]'(by omega)) (bitsOf k) := by
      by_cases hc : lessP (L[i - 1]'(by omega)) (bitsOf k)
      · exact hc
      · exact absurd (lessP_tri hl hc ▸ List.getElem_mem _) hnew
    by_cases hji : j = i - 1
    · subst hji; exact hlast
    · exact lessP_trans (List.pairwise_iff_getElem.1 h.srt j (i - 1) (by omega) (by omega) (by omega)) hlast
  have hhigh : ∀ x ∈ L.drop i, lessP (bitsOf k) x := by
    intro x hx
    obtain ⟨j, hj, rfl⟩ := List.getElem_of_mem hx
    rw [List.length_drop] at hj
    rw [List.getElem_drop]
    exact hhi _ (by omega) (by omega)
  refine ⟨?_, fun x => ?_⟩
  · rw [List.append_assoc, List.pairwise_append]
    refine ⟨h.srt.sublist (List.take_sublist _ _), ?_, fun a ha b hb => ?_⟩
    · rw [List.singleton_append, List.pairwise_cons]
      exact ⟨hhigh, h.srt.sublist (List.drop_sublist _ _)⟩
    · rw [List.singleton_append] at hb
      rcases List.mem_cons.1 hb with rfl | hb
      · exact hlow a ha
      · exact lessP_trans (hlow a ha) (hhigh b hb)
  · rw [List.mem_append, List.mem_append, List.mem_singleton]
    have hx : (x ∈ L.take i ∨ x ∈ L.drop i) ↔ x ∈ L := by rw [← List.mem_append, List.take_append_drop]
    constructor
    · intro hh
      have : x = bitsOf k ∨ x ∈ L := by
        rcases hh with (hh | hh) | hh
        · exact .inr (hx.1 (.inl hh))
        · exact .inl hh
        · exact .inr (hx.1 (.inr hh))
      rcases this with rfl | hm
      · exact ⟨k, h1, by omega, hk, rfl⟩
      · obtain ⟨s, a, b, c, d⟩ := (h.mem x).1 hm
        exact ⟨s, a, by omega, c, d⟩
    · rintro ⟨s, a, b, c, d⟩
      by_cases e : s = k
      · subst e; exact .inl (.inr d)
      · rcases hx.2 ((h.mem x).2 ⟨s, a, by omega, c, d⟩) with hh | hh
        · exact .inl (.inl hh)
        · exact .inr hh
theorem mdOn_det {P : Nat → Prop} {k : Nat} {L M : List (List Nat)} (h : MdOn P k L) (h2 : MdOn P k M) : L = M :=
  sorted_ext lessP lessP_irrefl lessP_trans L M h.srt h2.srt fun x => by rw [h.mem, h2.mem]
/-- What ModulesOf returns. -/
def MdS (g gg : List (List Int)) : Prop := ((GOk g ∧ g.length ≤ 8) ∧ ∃ L, MdOn (ModN g) (2 ^ g.length) L ∧ gg = L.map natInts) ∨ (¬ (GOk g ∧ g.length ≤ 8) ∧ gg = [])
theorem mdS_det {g gg hh : List (List Int)} (h : MdS g gg) (k : MdS g hh) : gg = hh := by
  rcases h with ⟨h1, L, h2, rfl⟩ | ⟨h1, rfl⟩ <;> rcases k with ⟨k1, M, k2, rfl⟩ | ⟨k1, rfl⟩
  · rw [mdOn_det h2 k2]
  · exact absurd h1 k1
  · exact absurd k1 h1
  · rfl
/-- A sorted arrangement of the modules' numbers. -/
theorem mdOn_sorted {P : Nat → Prop} {k : Nat} (hk : k ≤ 65536) {L : List (List Nat)} (hnd : L.Nodup) (hs : L.Pairwise fun x y => ¬ lessP y x) (hm : ∀ x, x ∈ L ↔ ∃ s, 1 ≤ s ∧ s < k ∧ P s ∧ x = bitsOf s) : MdOn P k L := by
  refine ⟨?_, hm⟩
  have hb := hnd.and hs
  exact hb.imp fun {a b} hab => by
    by_cases hc : lessP a b
    · exact hc
    · exact absurd (lessP_tri hc hab.2) hab.1

end Go.Proofs.YtfokiijcpkhllaaDoor
