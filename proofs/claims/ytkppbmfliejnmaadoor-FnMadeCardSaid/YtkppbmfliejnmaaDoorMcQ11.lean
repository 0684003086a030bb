/- Plain: the complement of a graph, two graphs beside each other, two graphs joined: neighbours, parts, degrees. -/
import Derived.Test.YtkppbmfliejnmaaDoorMcQ9
import Derived.Test.YtkppbmfliejnmaaDoorMcQ6
import Derived.Test.YtkppbmfliejnmaaDoorMcQ10
import Derived.Test.YtkppbmfliejnmaaDoorMcQ4
import Derived.Test.YtkppbmfliejnmaaDoorMcQ1
import Derived.Deep.RegionHeld3
import Derived.Deep.DeepCutAuto
namespace Go.Proofs.YtkppbmfliejnmaaDoor

def compE (E : Nat → Nat → Bool) : Nat → Nat → Bool := fun r j => !(r == j) && !E r j
def besE (n : Nat) (E F : Nat → Nat → Bool) : Nat → Nat → Bool := fun r j =>
  if r < n then decide (j < n) && E r j else decide (n ≤ j) && F (r - n) (j - n)
def joiE (n : Nat) (E F : Nat → Nat → Bool) : Nat → Nat → Bool := fun r j => besE n E F r j || (decide (r < n) != decide (j < n))

theorem ofG_matG {m : Nat} {E : Nat → Nat → Bool} {r j : Nat} (hr : r < m) (hj : j < m) : ofG (matG m E) r j = E r j := by
  unfold ofG
  cases h : E r j with
  | true => exact decide_eq_true ((mem_matG hr).2 ⟨j, rfl, hj, h⟩)
  | false =>
    refine decide_eq_false fun hm => ?_
    obtain ⟨k, e, _, h2⟩ := (mem_matG hr).1 hm
    obtain rfl : k = j := by omega
    rw [h] at h2
    exact absurd h2 (by decide)

theorem comp_sym {E : Nat → Nat → Bool} (h : ∀ r j, E r j = true → E j r = true) (r j : Nat) (hc : compE E r j = true) : compE E j r = true := by
  unfold compE at hc ⊢
  simp only [Bool.and_eq_true, Bool.not_eq_true', beq_eq_false_iff_ne] at hc ⊢
  refine ⟨fun e => hc.1 e.symm, ?_⟩
  cases h2 : E j r with
  | false => rfl
  | true =>
    rw [h _ _ h2] at hc
    exact absurd hc.2 (by decide)
theorem comp_irr (E : Nat → Nat → Bool) (r : Nat) : compE E r r = false := by simp [compE]
theorem bes_low {n : Nat} {E F : Nat → Nat → Bool} {r j : Nat} (hr : r < n) : besE n E F r j = (decide (j < n) && E r j) := by simp [besE, hr]
theorem bes_high {n : Nat} {E F : Nat → Nat → Bool} {r j : Nat} : besE n E F (n + r) j = (decide (n ≤ j) && F r (j - n)) := by
  unfold besE
  rw [if_neg (by omega), show n + r - n = r by omega]
theorem bes_sym {n : Nat} {E F : Nat → Nat → Bool} (h1 : ∀ r j, E r j = true → E j r = true) (h2 : ∀ r j, F r j = true → F j r = true) (r j : Nat) (hb : besE n E F r j = true) : besE n E F j r = true := by
  unfold besE at hb ⊢
  by_cases hr : r < n
  · rw [if_pos hr] at hb
    simp only [Bool.and_eq_true, decide_eq_true_eq] at hb
    rw [if_pos hb.1]
    simp [hr, h1 _ _ hb.2]
  · rw [if_neg hr] at hb
    simp only [Bool.and_eq_true, decide_eq_true_eq] at hb
    rw [if_neg (by omega)]
    simp only [Bool.and_eq_true, decide_eq_true_eq]
    exact ⟨by omega, h2 _ _ hb.2⟩
theorem bes_irr {n : Nat} {E F : Nat → Nat → Bool} (h1 : ∀ r, E r r = false) (h2 : ∀ r, F r r = false) (r : Nat) : besE n E F r r = false := by
  unfold besE
  split <;> simp [h1, h2]
theorem joi_sym {n : Nat} {E F : Nat → Nat → Bool} (h1 : ∀ r j, E r j = true → E j r = true) (h2 : ∀ r j, F r j = true → F j r = true) (r j : Nat) (hb : joiE n E F r j = true) : joiE n E F j r = true := by
  unfold joiE at hb ⊢
  rw [Bool.or_eq_true] at hb ⊢
  rcases hb with hb | hb
  · exact .inl (bes_sym h1 h2 _ _ hb)
  · right
    rw [bne_iff_ne] at hb ⊢
    exact fun e => hb e.symm
theorem joi_irr {n : Nat} {E F : Nat → Nat → Bool} (h1 : ∀ r, E r r = false) (h2 : ∀ r, F r r = false) (r : Nat) : joiE n E F r r = false := by
  unfold joiE
  rw [bes_irr h1 h2]
  simp

/-- The complement of two complements beside each other is the join. -/
theorem join_comp {n m : Nat} {E F : Nat → Nat → Bool} (h1 : ∀ r, E r r = false) (h2 : ∀ r, F r r = false) :
    matG (n + m) (compE (ofG (matG (n + m) (besE n (ofG (matG n (compE E))) (ofG (matG m (compE F))))))) = matG (n + m) (joiE n E F) := by
  refine matG_congr fun r j hr hj => ?_
  unfold compE
  rw [ofG_matG hr hj]
  unfold joiE besE
  by_cases hrn : r < n
  · by_cases hjn : j < n
    · rw [if_pos hrn, if_pos hrn, ofG_matG hrn hjn]
      by_cases e : r = j
      · subst e; simp [h1]
      · have e' : (r == j) = false := by simpa using e
        simp [hrn, hjn, e']
    · have e' : (r == j) = false := by simp; omega
      simp [hrn, hjn, e']
  · by_cases hjn : j < n
    · have e' : (r == j) = false := by simp; omega
      simp [hrn, hjn, e', show ¬ n ≤ j by omega]
    · rw [if_neg hrn, if_neg hrn, ofG_matG (by omega) (by omega)]
      by_cases e : r = j
      · subst e; simp [h2]
      · have e' : (r == j) = false := by simpa using e
        have e2 : ((r - n) == (j - n)) = false := by simp; omega
        simp [hrn, hjn, e', e2, show n ≤ j by omega]

/-- What is reached depends on the edges within alone. -/
theorem rch_congr {E E' : Nat → Nat → Bool} {S : Nat → Prop} {u : Nat} (hu : S u) (h : ∀ r j, S r → S j → E r j = E' r j) : ∀ x, Rch E S u x → Rch E' S u x := by
  intro x hx
  induction hx with
  | base => exact .base
  | step h1 h2 h3 ih => exact .step ih (by rw [← h _ _ (rch_in hu _ h1) h3]; exact h2) h3
theorem rch_congr' {E E' : Nat → Nat → Bool} {S : Nat → Prop} {u : Nat} (hu : S u) (h : ∀ r j, S r → S j → E r j = E' r j) (x : Nat) : Rch E S u x ↔ Rch E' S u x :=
  ⟨rch_congr hu h x, rch_congr hu (fun r j hr hj => (h r j hr hj).symm) x⟩
theorem partL_congr {E E' : Nat → Nat → Bool} {L : List Nat} {u : Nat} (hu : u ∈ L) (h : ∀ r j, r ∈ L → j ∈ L → E r j = E' r j) : partL E L u = partL E' L u :=
  List.filter_congr fun x _ => dec_congr (rch_congr' hu h x)
theorem restL_congr {E E' : Nat → Nat → Bool} {L : List Nat} {u : Nat} (hu : u ∈ L) (h : ∀ r j, r ∈ L → j ∈ L → E r j = E' r j) : restL E L u = restL E' L u :=
  List.filter_congr fun x _ => by rw [dec_congr (rch_congr' hu h x)]
theorem parts_congr {E E' : Nat → Nat → Bool} {L : List Nat} {ps : List (List Nat)} (h : Parts E L ps) : (∀ r j, r ∈ L → j ∈ L → E r j = E' r j) → Parts E' L ps := by
  induction h with
  | done => intro _; exact .done
  | step u L ps _ ih =>
    intro hc
    rw [partL_congr (List.mem_cons_self ..) hc]
    refine .step u L ps ?_
    rw [← restL_congr (List.mem_cons_self ..) hc]
    exact ih fun r j hr hj => hc r j (mem_restL.1 hr).1 (mem_restL.1 hj).1

/-- Reached among the upper ones. -/
theorem rch_high {n : Nat} {E F : Nat → Nat → Bool} {M : List Nat} {u : Nat} (x : Nat) : Rch (besE n E F) (· ∈ M.map (n + ·)) (n + u) (n + x) ↔ Rch F (· ∈ M) u x := by
  constructor
  · intro h
    have key : ∀ y, Rch (besE n E F) (· ∈ M.map (n + ·)) (n + u) y → ∃ z, y = n + z ∧ Rch F (· ∈ M) u z := by
      refine rch_closed ⟨u, rfl, .base⟩ fun a b ha hE hb => ?_
      obtain ⟨z, rfl, hz⟩ := ha
      obtain ⟨c, hc, rfl⟩ := List.mem_map.1 hb
      rw [bes_high, Bool.and_eq_true] at hE
      have h2 := hE.2
      rw [show n + c - n = c by omega] at h2
      exact ⟨c, rfl, .step hz h2 hc⟩
    obtain ⟨z, e, hz⟩ := key _ h
    obtain rfl : x = z := by omega
    exact hz
  · intro h
    induction h with
    | base => exact .base
    | @step a b h1 h2 h3 ih =>
      refine .step ih ?_ (List.mem_map.2 ⟨b, h3, rfl⟩)
      rw [bes_high, show n + b - n = b by omega, h2]
      simp
theorem parts_high {n : Nat} {E F : Nat → Nat → Bool} {M : List Nat} {qs : List (List Nat)} (h : Parts F M qs) : Parts (besE n E F) (M.map (n + ·)) (qs.map (List.map (n + ·))) := by
  induction h with
  | done => exact .done
  | step u M qs _ ih =>
    have e1 : partL (besE n E F) ((u :: M).map (n + ·)) (n + u) = (partL F (u :: M) u).map (n + ·) := by
      unfold partL
      rw [List.filter_map]
      congr 1
      exact List.filter_congr fun x _ => dec_congr (rch_high x)
    have e2 : restL (besE n E F) ((u :: M).map (n + ·)) (n + u) = (restL F (u :: M) u).map (n + ·) := by
      unfold restL
      rw [List.filter_map]
      congr 1
      refine List.filter_congr fun x _ => ?_
      simp only [Function.comp]
      rw [dec_congr (rch_high x)]
    have := Parts.step (E := besE n E F) (n + u) (M.map (n + ·)) (qs.map (List.map (n + ·))) (by rw [← List.map_cons (f := (n + ·)), e2]; exact ih)
    rw [← List.map_cons (f := (n + ·)), e1] at this
    exact this
theorem rch_low {n : Nat} {E F : Nat → Nat → Bool} {L M : List Nat} (hL : ∀ x ∈ L, x < n) {u : Nat} (hu : u ∈ L) (x : Nat) : Rch (besE n E F) (· ∈ L ++ M.map (n + ·)) u x ↔ Rch E (· ∈ L) u x := by
  constructor
  · intro h
    refine (rch_closed (T := fun x => x < n ∧ Rch E (· ∈ L) u x) ⟨hL u hu, .base⟩ (fun a b ha hE hb => ?_) x h).2
    rw [bes_low ha.1, Bool.and_eq_true, decide_eq_true_eq] at hE
    rcases List.mem_append.1 hb with h1 | h1
    · exact ⟨hE.1, .step ha.2 hE.2 h1⟩
    · obtain ⟨c, _, rfl⟩ := List.mem_map.1 h1
      omega
  · intro h
    induction h with
    | base => exact .base
    | @step a b h1 h2 h3 ih =>
      have ha := hL _ (rch_in (S := (· ∈ L)) hu _ h1)
      refine .step ih ?_ (List.mem_append_left _ h3)
      rw [bes_low ha, h2]
      simp [hL _ h3]
theorem parts_beside {n : Nat} {E F : Nat → Nat → Bool} {M : List Nat} {qs : List (List Nat)} (hq : Parts F M qs) {L : List Nat} {ps : List (List Nat)} (h : Parts E L ps) :
    (∀ x ∈ L, x < n) → Parts (besE n E F) (L ++ M.map (n + ·)) (ps ++ qs.map (List.map (n + ·))) := by
  induction h with
  | done => intro _; exact parts_high hq
  | step u L ps _ ih =>
    intro hL
    have e1 : partL (besE n E F) (u :: L ++ M.map (n + ·)) u = partL E (u :: L) u := by
      unfold partL
      rw [List.filter_append, List.filter_congr fun x _ => dec_congr (rch_low (M := M) hL (List.mem_cons_self ..) x)]
      have : (M.map (n + ·)).filter (fun x => dec (Rch (besE n E F) (· ∈ u :: L ++ M.map (n + ·)) u x)) = [] := by
        rw [List.filter_eq_nil_iff]
        intro x hx
        obtain ⟨c, _, rfl⟩ := List.mem_map.1 hx
        rw [dec_iff, rch_low hL (List.mem_cons_self ..)]
        intro hr
        have := hL _ (rch_in (S := (· ∈ u :: L)) (List.mem_cons_self ..) _ hr)
        omega
      rw [this, List.append_nil]
    have e2 : restL (besE n E F) (u :: L ++ M.map (n + ·)) u = restL E (u :: L) u ++ M.map (n + ·) := by
      unfold restL
      rw [List.filter_append]
      congr 1
      · exact List.filter_congr fun x _ => by rw [dec_congr (rch_low (M := M) hL (List.mem_cons_self ..) x)]
      · rw [List.filter_eq_self]
        intro x hx
        obtain ⟨c, _, rfl⟩ := List.mem_map.1 hx
        rw [Bool.not_eq_true', dec_false]
        rw [rch_low hL (List.mem_cons_self ..)]
        intro hr
        have := hL _ (rch_in (S := (· ∈ u :: L)) (List.mem_cons_self ..) _ hr)
        omega
    have := Parts.step (E := besE n E F) u (L ++ M.map (n + ·)) (ps ++ qs.map (List.map (n + ·))) (by
      rw [← List.cons_append, e2]
      exact ih fun x hx => hL x (mem_restL.1 hx).1)
    rw [← List.cons_append, e1] at this
    exact this
theorem range_beside (n m : Nat) : List.range (n + m) = List.range n ++ (List.range m).map (n + ·) := by rw [List.range_add]
/-- What stands beside has the parts of both. -/
theorem parts_sum {n m : Nat} {E F X : Nat → Nat → Bool} {ps qs rs : List (List Nat)} (hX : ∀ r j, r < n + m → j < n + m → X r j = besE n E F r j) (h1 : Parts E (List.range n) ps) (h2 : Parts F (List.range m) qs) (h3 : Parts X (List.range (n + m)) rs) : rs.length = ps.length + qs.length := by
  have h4 := parts_beside h2 h1 (n := n) (fun x hx => List.mem_range.1 hx)
  rw [← range_beside] at h4
  have h5 := parts_congr h3 fun r j hr hj => hX r j (List.mem_range.1 hr) (List.mem_range.1 hj)
  rw [parts_det h5 h4, List.length_append, List.length_map]
/-- What is joined is one part. -/
theorem parts_one {E : Nat → Nat → Bool} {L : List Nat} {u : Nat} {ps : List (List Nat)} (h : Parts E (u :: L) ps) (hr : ∀ x ∈ L, Rch E (· ∈ u :: L) u x) : ps.length = 1 := by
  cases h with
  | step _ _ ps h =>
    have e : restL E (u :: L) u = [] := by
      rw [List.eq_nil_iff_forall_not_mem]
      intro x hx
      have h1 := mem_restL.1 hx
      rcases List.mem_cons.1 h1.1 with rfl | h2
      · exact h1.2 .base
      · exact h1.2 (hr x h2)
    rw [e] at h
    cases h
    rfl
theorem parts_joined {n m : Nat} {E F X : Nat → Nat → Bool} {rs : List (List Nat)} (hn : 0 < n) (hm : 0 < m) (hX : ∀ r j, r < n + m → j < n + m → X r j = joiE n E F r j) (h : Parts X (List.range (n + m)) rs) : rs.length = 1 := by
  obtain ⟨k, hk⟩ : ∃ k, n + m = k + 1 := ⟨n + m - 1, by omega⟩
  have e : List.range (n + m) = 0 :: (List.range k).map Nat.succ := by rw [hk, List.range_succ_eq_map]
  have hmem : ∀ x, x < n + m → x ∈ 0 :: (List.range k).map Nat.succ := fun x hx => by rw [← e]; exact List.mem_range.2 hx
  rw [e] at h
  refine parts_one h fun x hx => ?_
  have hx2 : x < n + m := by
    have : x ∈ List.range (n + m) := by rw [e]; exact List.mem_cons_of_mem _ hx
    exact List.mem_range.1 this
  have hcross : ∀ r j, r < n + m → j < n + m → (r < n ↔ ¬ j < n) → X r j = true := fun r j hr hj hc => by
    rw [hX r j hr hj]
    unfold joiE
    by_cases h1 : r < n
    · simp [h1, hc.1 h1]
    · have : j < n := by
        by_cases h2 : j < n
        · exact h2
        · exact absurd (hc.2 h2) h1
      simp [h1, this]
  by_cases hxn : x < n
  · exact .step (.step .base (hcross 0 n (by omega) (by omega) ⟨fun _ => by omega, fun _ => hn⟩) (hmem n (by omega))) (hcross n x (by omega) hx2 ⟨fun _ => by omega, fun h => absurd hxn h⟩) (hmem x hx2)
  · exact .step .base (hcross 0 x (by omega) hx2 ⟨fun _ => hxn, fun _ => hn⟩) (hmem x hx2)

/-- The degrees beside each other. -/
theorem degN_low {n m : Nat} {E F X : Nat → Nat → Bool} (hX : ∀ r j, r < n + m → j < n + m → X r j = besE n E F r j) {v : Nat} (hv : v < n) : degN (n + m) X v = degN n E v := by
  unfold degN
  rw [range_beside, List.countP_append]
  have h1 : (List.range n).countP (X v) = (List.range n).countP (E v) := List.countP_congr fun x hx => by
    have := List.mem_range.1 hx
    rw [hX v x (by omega) (by omega), bes_low hv]
    simp [this]
  have h2 : ((List.range m).map (n + ·)).countP (X v) = 0 := List.countP_eq_zero.2 fun x hx => by
    obtain ⟨c, hc, rfl⟩ := List.mem_map.1 hx
    have := List.mem_range.1 hc
    rw [hX v _ (by omega) (by omega), bes_low hv]
    simp [show ¬ n + c < n by omega]
  omega
theorem degN_high {n m : Nat} {E F X : Nat → Nat → Bool} (hX : ∀ r j, r < n + m → j < n + m → X r j = besE n E F r j) {v : Nat} (hv : v < m) : degN (n + m) X (n + v) = degN m F v := by
  unfold degN
  rw [range_beside, List.countP_append, List.countP_map]
  have h1 : (List.range n).countP (X (n + v)) = 0 := List.countP_eq_zero.2 fun x hx => by
    have := List.mem_range.1 hx
    rw [hX _ x (by omega) (by omega), bes_high]
    simp; omega
  have h2 : (List.range m).countP (X (n + v) ∘ fun x => n + x) = (List.range m).countP (F v) := List.countP_congr fun x hx => by
    have := List.mem_range.1 hx
    simp only [Function.comp]
    rw [hX _ _ (by omega) (by omega), bes_high, show n + x - n = x by omega]
    simp
  omega
theorem totN_beside {n m : Nat} {E F X : Nat → Nat → Bool} (hX : ∀ r j, r < n + m → j < n + m → X r j = besE n E F r j) : totN (n + m) X = totN n E + totN m F := by
  unfold totN
  rw [range_beside, List.map_append, List.sum_append, List.map_map]
  congr 1
  · congr 1
    exact List.map_congr_left fun v hv => degN_low hX (List.mem_range.1 hv)
  · congr 1
    exact List.map_congr_left fun v hv => degN_high hX (List.mem_range.1 hv)
/-- The first vertices of what stands beside are the first graph. -/
theorem ind_beside {n m : Nat} {E F : Nat → Nat → Bool} : indL (matG (n + m) (besE n E F)) (allL n) = matG n E := by
  unfold indL
  rw [allL_length]
  refine matG_congr fun r j hr hj => ?_
  have hg : ∀ k, k < n → (allL n).getD k 0 = (k : Int) := fun k hk => by simp [allL, hk]
  unfold indE
  rw [hg r hr, hg j hj, Int.toNat_natCast]
  have := ofG_matG (E := besE n E F) (show r < n + m by omega) (show j < n + m by omega)
  unfold ofG at this
  rw [this, bes_low hr]
  simp [hj]

end Go.Proofs.YtkppbmfliejnmaaDoor

/- Walks: the reference's list operations that make memory. -/
namespace Go.Proofs.YtkppbmfliejnmaaDoor
open Go.RowKit

set_option maxRecDepth 100000 in
set_option maxHeartbeats 1000000 in
theorem l1Copy_any (v : Value) (n : Nat) (vals : List Value) (h1 : ∀ x ∈ vals, x.oneCell' = true) (hl : vals.length = n) (w : World) (hx : Sl w 2 v n vals) :
    Calls Tryd.prog 200 #[v] w fun e w' => ∃ u, e = .returned u ∧ w'.ownsRow w.heap.size 2 1 u n vals ∧ Below w.heap.size w w' := by
  have hn := hx
  obtain ⟨p, c, rfl, _, _, hn, _⟩ := hn
  have hx' := hx.below (below_alloc w (.cells #[] 2))
  have ho := ownsRow_empty w 2 1
  have hb := below_alloc w (.cells #[] 2)
  have hsz : w.heap.size ≤ (w.alloc (.cells #[] 2)).heap.size := hb.size
  have Hl := Lib.hid hl
  clear hl
  go_enter Tryd.func200, Tryd.ntmps200
  go_wp2_with (at_builtin; refine wpList_app ty_i64 rfl rfl rfl ho rfl hx' (by have := Hl.out; omega) h1 (by omega) hsz ?_; intro v' w1 hown' hg _)
  go_ret
  refine ⟨_, rfl, by simpa using hown', below_grown hb ho hg (Nat.le_refl _) hsz⟩

theorem oneCell_ints (K : IntKind) (xs : List Int) : ∀ x ∈ xs.map (Value.int K), x.oneCell' = true := by
  intro x hx
  obtain ⟨y, _, rfl⟩ := List.mem_map.1 hx
  rfl



end Go.Proofs.YtkppbmfliejnmaaDoor

/- Walk: the reference's list with one more. -/
namespace Go.Proofs.YtkppbmfliejnmaaDoor
open Go.RowKit

set_option maxRecDepth 100000 in
set_option maxHeartbeats 1000000 in
theorem l1Into_any (v : Value) (xs : List Int) (n : Int) (hl : xs.length ≤ 100000000) (w : World) (hx : Nums w 2 .i64 v xs) :
    Calls Tryd.prog 210 #[v, .int .i64 n] w fun e w' => ∃ u, e = .returned u ∧ Nums w' 2 .i64 u (intoL xs n) ∧ Below w.heap.size w w' := by
  have hx0 := Lib.hid hx
  obtain ⟨p, c, rfl, hp, hnc, hn, hat⟩ := hx
  go_enter Tryd.func210, Tryd.ntmps210
  go_wp2
  go_loop [5] (fun i => ∃ k : Nat, k ≤ xs.length ∧ i = .int .i64 k ∧ ∀ j (hj : j < xs.length), j < k → xs[j] < n) (fun i => xs.length - (intOf i).toNat)
  case atStart => exact ⟨0, Nat.zero_le _, rfl, fun j hj h => by omega⟩
  case round =>
    obtain ⟨k, hk, rfl, hlow⟩ := hrel
    have Hlow := Lib.hid hlow
    clear hlow
    by_cases hlt : k < xs.length
    · obtain ⟨b, o, rfl, hcell⟩ := hat.num hlt
      by_cases h1 : xs[k] < n
      · go_wp2
        go_round
        case rel =>
          refine ⟨k + 1, by omega, by go_num, fun j hj h => ?_⟩
          by_cases e : j = k
          · subst e; exact h1
          · exact Hlow.out j hj (by omega)
        case measure => simp [intOf]; omega
      · by_cases h2 : xs[k] = n
        · have h2' : (xs[k] == n) = true := by simpa using h2
          have H := Lib.hid (intoL_eq hlt Hlow.out h1 h2)
          clear h2
          go_wp2
          go_ret
          exact ⟨_, rfl, by rw [H.out]; exact hx0.out, Below.refl _ _⟩
        · have h2' : (xs[k] == n) = false := by simpa using h2
          have H := Lib.hid (intoL_new hk Hlow.out (fun _ => h1) (fun _ => h2))
          clear h2
          have hsl : Sl w 2 (.slice (some ⟨b, o, none⟩) k c) k ((xs.take k).map (Value.int .i64)) :=
            ⟨_, _, rfl, (fun e => by cases e), by omega, by omega, by rw [List.map_take]; exact hat.take k⟩
          have hkc : k < c := by omega
          have hd : Sl w 2 (.slice (some ⟨b, o + k, none⟩) (xs.length - k) (c - k)) (xs.length - k) ((xs.drop k).map (Value.int .i64)) :=
            ⟨_, _, rfl, (fun e => by cases e), by omega, by omega, by rw [List.map_drop]; exact hat.drop k⟩
          go_wp2_with (first
            | (go_at_call 200; refine (l1Copy_any _ k _ (oneCell_ints _ _) (by simp; omega) _ hsl).mono ?_; rintro e w1 ⟨u1, rfl, hown1, hb1⟩)
            | (at_builtin; refine wpList_app1 ty_i64 rfl rfl rfl hown1 rfl rfl (by omega) hb1.size ?_; intro v2 w2 hown2 hg2 _; have hb2 := below_grown hb1 hown1 hg2 (Nat.le_refl _) hb1.size; have hd2 : Sl w2 2 (.slice (some ⟨b, o + k, none⟩) (xs.length - k) (c - k)) (xs.length - k) ((xs.drop k).map (Value.int .i64)) := hd.below hb2)
            | (at_builtin; refine wpList_app ty_i64 rfl rfl rfl hown2 rfl hd2 (by simp) (oneCell_ints _ _) (by omega) hb2.size ?_; intro v3 w3 hown3 hg3 _))
          go_ret
          refine ⟨_, rfl, ?_, below_grown hb2 hown2 hg3 (Nat.le_refl _) hb2.size⟩
          have e : (xs.take k).map (Value.int .i64) ++ [Value.int .i64 n] ++ (xs.drop k).map (Value.int .i64) = (intoL xs n).map (Value.int .i64) := by rw [H.out]; simp
          rw [e] at hown3
          have hlen : k + 1 + (xs.length - k) = (intoL xs n).length := by rw [H.out]; simp; omega
          exact Nums.of_owns hown3 hlen (by omega)
    · obtain rfl : k = xs.length := by omega
      have H := Lib.hid (intoL_new hk Hlow.out (fun h => absurd h hlt) (fun h => absurd h hlt))
      have hsl : Sl w 2 (.slice p xs.length c) xs.length (xs.map (Value.int .i64)) := hx0.out
      have hfin : ∀ (w2 : World) (u : Value), w2.ownsRow w.heap.size 2 1 u (xs.length + 1 + 0) (xs.map (Value.int .i64) ++ [Value.int .i64 n] ++ []) → Nums w2 2 .i64 u (intoL xs n) := by
        intro w2 u ho
        have e : xs.map (Value.int .i64) ++ [Value.int .i64 n] ++ [] = (intoL xs n).map (Value.int .i64) := by rw [H.out]; simp
        rw [e] at ho
        exact Nums.of_owns ho (by rw [H.out]; simp) (by omega)
      rcases p with _ | a
      · obtain ⟨h0, rfl⟩ := hp rfl
        have h0' : xs = [] := List.eq_nil_of_length_eq_zero h0
        subst h0'
        go_wp2_with (first
          | (go_at_call 200; refine (l1Copy_any _ 0 _ (oneCell_ints _ _) rfl _ hsl).mono ?_; rintro e w1 ⟨u1, rfl, hown1, hb1⟩)
          | (at_builtin; refine wpList_app1 ty_i64 rfl rfl rfl hown1 rfl rfl (by omega) hb1.size ?_; intro v2 w2 hown2 hg2 _; have hb2 := below_grown hb1 hown1 hg2 (Nat.le_refl _) hb1.size)
          | (at_builtin; refine wpList_app ty_i64 rfl rfl rfl hown2 rfl (Sl.nothing _ _ _ _ (fun _ => rfl)) rfl (fun x hx => by cases hx) (by omega) hb2.size ?_; intro v3 w3 hown3 hg3 _))
        go_ret
        exact ⟨_, rfl, hfin _ _ hown3, below_grown hb2 hown2 hg3 (Nat.le_refl _) hb2.size⟩
      · by_cases hcl : c = xs.length
        · subst hcl
          go_wp2_with (first
            | (go_at_call 200; refine (l1Copy_any _ xs.length _ (oneCell_ints _ _) (by simp) _ hsl).mono ?_; rintro e w1 ⟨u1, rfl, hown1, hb1⟩)
            | (at_builtin; refine wpList_app1 ty_i64 rfl rfl rfl hown1 rfl rfl (by omega) hb1.size ?_; intro v2 w2 hown2 hg2 _; have hb2 := below_grown hb1 hown1 hg2 (Nat.le_refl _) hb1.size)
            | (at_builtin; refine wpList_app ty_i64 rfl rfl rfl hown2 rfl (Sl.nothing _ _ _ _ (fun e => by cases e)) rfl (fun x hx => by cases hx) (by omega) hb2.size ?_; intro v3 w3 hown3 hg3 _))
          go_ret
          exact ⟨_, rfl, hfin _ _ hown3, below_grown hb2 hown2 hg3 (Nat.le_refl _) hb2.size⟩
        · have hcl' : xs.length < c := by omega
          go_wp2_with (first
            | (go_at_call 200; refine (l1Copy_any _ xs.length _ (oneCell_ints _ _) (by simp) _ hsl).mono ?_; rintro e w1 ⟨u1, rfl, hown1, hb1⟩)
            | (at_builtin; refine wpList_app1 ty_i64 rfl rfl rfl hown1 rfl rfl (by omega) hb1.size ?_; intro v2 w2 hown2 hg2 _; have hb2 := below_grown hb1 hown1 hg2 (Nat.le_refl _) hb1.size)
            | (at_builtin; refine wpList_app ty_i64 rfl rfl rfl hown2 rfl (Sl.nothing _ _ _ _ (fun e => by cases e)) rfl (fun x hx => by cases hx) (by omega) hb2.size ?_; intro v3 w3 hown3 hg3 _))
          go_ret
          exact ⟨_, rfl, hfin _ _ hown3, below_grown hb2 hown2 hg3 (Nat.le_refl _) hb2.size⟩

end Go.Proofs.YtkppbmfliejnmaaDoor

/- Walks: the reference's fold of a vertex. -/
namespace Go.Proofs.YtkppbmfliejnmaaDoor
open Go.RowKit

def fdVal (f : Fd) : Value := .agg #[.int .i64 f.V, .int .i64 f.A, .int .i64 f.B]

theorem Rws.of_owned {w : World} {base EO EI : Nat} {v : Value} {g : List (List Int)} (vals : List Value) (hl : vals.length = g.length) (ho : w.ownsRow base EO 1 v g.length vals) (hn : g.length ≤ 1000000000)
    (hr : ∀ j, j < g.length → Nums w EI .i64 (vals.getD j undef) (row g j)) : Rws w EO EI v g := ⟨vals, hl, Sl.of_owns ho hn, hr⟩

theorem getD_append_left {α : Type} (l m : List α) (j : Nat) (d : α) (h : j < l.length) : (l ++ m).getD j d = l.getD j d := by simp [List.getElem?_append_left h]
theorem getD_append_last {α : Type} (l : List α) (x d : α) : (l ++ [x]).getD l.length d = x := by simp

theorem cell_new3 (w : World) (a b c : Value) (T : TypeId) : (w.alloc (.cells #[a, b, c] T)).cell? ⟨w.heap.size, 0, none⟩ = some a ∧ (w.alloc (.cells #[a, b, c] T)).cell? ⟨w.heap.size, 1, none⟩ = some b ∧ (w.alloc (.cells #[a, b, c] T)).cell? ⟨w.heap.size, 2, none⟩ = some c := by
  have := heap_alloc_new w (.cells #[a, b, c] T)
  refine ⟨?_, ?_, ?_⟩ <;> (unfold World.cell?; rw [this]; rfl)


end Go.Proofs.YtkppbmfliejnmaaDoor
