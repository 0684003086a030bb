/- Plain: the complement of a graph, two graphs beside each other, two graphs joined: neighbours, parts, degrees. -/
import Derived.Test.YtkppbmfliejnmaaDoorSmQ8
import Derived.Test.YtkppbmfliejnmaaDoorSmQ6
import Derived.Test.YtkppbmfliejnmaaDoorSmQ9
import Derived.Test.YtkppbmfliejnmaaDoorSmQ4
import Derived.Test.YtkppbmfliejnmaaDoorSmQ1
import Derived.Deep.RegionHeld3
import Derived.Deep.DeepCutAuto
import Derived.Deep.RegionLaw
namespace Go.Proofs.YtkppbmfliejnmaaDoor

def compE (E : Nat → Nat → Bool) : Nat → Nat → Bool := fun r j => !(r == j) && !E r j
def besE (n : Nat) (E F : Nat → Nat → Bool) : Nat → Nat → Bool := fun r j =>
  if r < n then decide (j < n) && E r j else decide (n ≤ j) && F (r - n) (j - n)
def joiE (n : Nat) (E F : Nat → Nat → Bool) : Nat → Nat → Bool := fun r j => besE n E F r j || (decide (r < n) != decide (j < n))

theorem ofG_matG {m : Nat} {E : Nat → Nat → Bool} {r j : Nat} (hr : r < m) (hj : j < m) : ofG (matG m E) r j = E r j := by
  unfold ofG
  cases h : E r j with
  | true => exact decide_eq_true ((mem_matG hr).2 ⟨j, rfl, hj, h⟩)
  | false =>
    refine decide_eq_false fun hm => ?_
    obtain ⟨k, e, _, h2⟩ := (mem_matG hr).1 hm
    obtain rfl : k = j := by omega
    rw [h] at h2
    exact absurd h2 (by decide)

theorem comp_sym {E : Nat → Nat → Bool} (h : ∀ r j, E r j = true → E j r = true) (r j : Nat) (hc : compE E r j = true) : compE E j r = true := by
  unfold compE at hc ⊢
  simp only [Bool.and_eq_true, Bool.not_eq_true', beq_eq_false_iff_ne] at hc ⊢
  refine ⟨fun e => hc.1 e.symm, ?_⟩
  cases h2 : E j r with
  | false => rfl
  | true =>
    rw [h _ _ h2] at hc
    exact absurd hc.2 (by decide)
theorem comp_irr (E : Nat → Nat → Bool) (r : Nat) : compE E r r = false := by simp [compE]
theorem bes_low {n : Nat} {E F : Nat → Nat → Bool} {r j : Nat} (hr : r < n) : besE n E F r j = (decide (j < n) && E r j) := by simp [besE, hr]
theorem bes_high {n : Nat} {E F : Nat → Nat → Bool} {r j : Nat} : besE n E F (n + r) j = (decide (n ≤ j) && F r (j - n)) := by
  unfold besE
  rw [if_neg (by omega), show n + r - n = r by omega]
theorem bes_sym {n : Nat} {E F : Nat → Nat → Bool} (h1 : ∀ r j, E r j = true → E j r = true) (h2 : ∀ r j, F r j = true → F j r = true) (r j : Nat) (hb : besE n E F r j = true) : besE n E F j r = true := by
  unfold besE at hb ⊢
  by_cases hr : r < n
  · rw [if_pos hr] at hb
    simp only [Bool.and_eq_true, decide_eq_true_eq] at hb
    rw [if_pos hb.1]
    simp [hr, h1 _ _ hb.2]
  · rw [if_neg hr] at hb
    simp only [Bool.and_eq_true, decide_eq_true_eq] at hb
    rw [if_neg (by omega)]
    simp only [Bool.and_eq_true, decide_eq_true_eq]
    exact ⟨by omega, h2 _ _ hb.2⟩
theorem bes_irr {n : Nat} {E F : Nat → Nat → Bool} (h1 : ∀ r, E r r = false) (h2 : ∀ r, F r r = false) (r : Nat) : besE n E F r r = false := by
  unfold besE
  split <;> simp [h1, h2]
theorem joi_sym {n : Nat} {E F : Nat → Nat → Bool} (h1 : ∀ r j, E r j = true → E j r = true) (h2 : ∀ r j, F r j = true → F j r = true) (r j : Nat) (hb : joiE n E F r j = true) : joiE n E F j r = true := by
  unfold joiE at hb ⊢
  rw [Bool.or_eq_true] at hb ⊢
  rcases hb with hb | hb
  · exact .inl (bes_sym h1 h2 _ _ hb)
  · right
    rw [bne_iff_ne] at hb ⊢
    exact fun e => hb e.symm
theorem joi_irr {n : Nat} {E F : Nat → Nat → Bool} (h1 : ∀ r, E r r = false) (h2 : ∀ r, F r r = false) (r : Nat) : joiE n E F r r = false := by
  unfold joiE
  rw [bes_irr h1 h2]
  simp

/-- The complement of two complements beside each other is the join. -/
theorem join_comp {n m : Nat} {E F : Nat → Nat → Bool} (h1 : ∀ r, E r r = false) (h2 : ∀ r, F r r = false) :
    matG (n + m) (compE (ofG (matG (n + m) (besE n (ofG (matG n (compE E))) (ofG (matG m (compE F))))))) = matG (n + m) (joiE n E F) := by
  refine matG_congr fun r j hr hj => ?_
  unfold compE
  rw [ofG_matG hr hj]
  unfold joiE besE
  by_cases hrn : r < n
  · by_cases hjn : j < n
    · rw [if_pos hrn, if_pos hrn, ofG_matG hrn hjn]
      by_cases e : r = j
      · subst e; simp [h1]
      · have e' : (r == j) = false := by simpa using e
        simp [hrn, hjn, e']
    · have e' : (r == j) = false := by simp; omega
      simp [hrn, hjn, e']
  · by_cases hjn : j < n
    · have e' : (r == j) = false := by simp; omega
      simp [hrn, hjn, e', show ¬ n ≤ j by omega]
    · rw [if_neg hrn, if_neg hrn, ofG_matG (by omega) (by omega)]
      by_cases e : r = j
      · subst e; simp [h2]
      · have e' : (r == j) = false := by simpa using e
        have e2 : ((r - n) == (j - n)) = false := by simp; omega
        simp [hrn, hjn, e', e2, show n ≤ j by omega]

/-- What is reached depends on the edges within alone. -/
theorem rch_congr {E E' : Nat → Nat → Bool} {S : Nat → Prop} {u : Nat} (hu : S u) (h : ∀ r j, S r → S j → E r j = E' r j) : ∀ x, Rch E S u x → Rch E' S u x := by
  intro x hx
  induction hx with
  | base => exact .base
  | step h1 h2 h3 ih => exact .step ih (by rw [← h _ _ (rch_in hu _ h1) h3]; exact h2) h3
theorem rch_congr' {E E' : Nat → Nat → Bool} {S : Nat → Prop} {u : Nat} (hu : S u) (h : ∀ r j, S r → S j → E r j = E' r j) (x : Nat) : Rch E S u x ↔ Rch E' S u x :=
  ⟨rch_congr hu h x, rch_congr hu (fun r j hr hj => (h r j hr hj).symm) x⟩
theorem partL_congr {E E' : Nat → Nat → Bool} {L : List Nat} {u : Nat} (hu : u ∈ L) (h : ∀ r j, r ∈ L → j ∈ L → E r j = E' r j) : partL E L u = partL E' L u :=
  List.filter_congr fun x _ => dec_congr (rch_congr' hu h x)
theorem restL_congr {E E' : Nat → Nat → Bool} {L : List Nat} {u : Nat} (hu : u ∈ L) (h : ∀ r j, r ∈ L → j ∈ L → E r j = E' r j) : restL E L u = restL E' L u :=
  List.filter_congr fun x _ => by rw [dec_congr (rch_congr' hu h x)]
theorem parts_congr {E E' : Nat → Nat → Bool} {L : List Nat} {ps : List (List Nat)} (h : Parts E L ps) : (∀ r j, r ∈ L → j ∈ L → E r j = E' r j) → Parts E' L ps := by
  induction h with
  | done => intro _; exact .done
  | step u L ps _ ih =>
    intro hc
    rw [partL_congr (List.mem_cons_self ..) hc]
    refine .step u L ps ?_
    rw [← restL_congr (List.mem_cons_self ..) hc]
    exact ih fun r j hr hj => hc r j (mem_restL.1 hr).1 (mem_restL.1 hj).1

/-- Reached among the upper ones. -/
theorem rch_high {n : Nat} {E F : Nat → Nat → Bool} {M : List Nat} {u : Nat} (x : Nat) : Rch (besE n E F) (· ∈ M.map (n + ·)) (n + u) (n + x) ↔ Rch F (· ∈ M) u x := by
  constructor
  · intro h
    have key : ∀ y, Rch (besE n E F) (· ∈ M.map (n + ·)) (n + u) y → ∃ z, y = n + z ∧ Rch F (· ∈ M) u z := by
      refine rch_closed ⟨u, rfl, .base⟩ fun a b ha hE hb => ?_
      obtain ⟨z, rfl, hz⟩ := ha
      obtain ⟨c, hc, rfl⟩ := List.mem_map.1 hb
      rw [bes_high, Bool.and_eq_true] at hE
      have h2 := hE.2
      rw [show n + c - n = c by omega] at h2
      exact ⟨c, rfl, .step hz h2 hc⟩
    obtain ⟨z, e, hz⟩ := key _ h
    obtain rfl : x = z := by omega
    exact hz
  · intro h
    induction h with
    | base => exact .base
    | @step a b h1 h2 h3 ih =>
      refine .step ih ?_ (List.mem_map.2 ⟨b, h3, rfl⟩)
      rw [bes_high, show n + b - n = b by omega, h2]
      simp
theorem parts_high {n : Nat} {E F : Nat → Nat → Bool} {M : List Nat} {qs : List (List Nat)} (h : Parts F M qs) : Parts (besE n E F) (M.map (n + ·)) (qs.map (List.map (n + ·))) := by
  induction h with
  | done => exact .done
  | step u M qs _ ih =>
    have e1 : partL (besE n E F) ((u :: M).map (n + ·)) (n + u) = (partL F (u :: M) u).map (n + ·) := by
      unfold partL
      rw [List.filter_map]
      congr 1
      exact List.filter_congr fun x _ => dec_congr (rch_high x)
    have e2 : restL (besE n E F) ((u :: M).map (n + ·)) (n + u) = (restL F (u :: M) u).map (n + ·) := by
      unfold restL
      rw [List.filter_map]
      congr 1
      refine List.filter_congr fun x _ => ?_
      simp only [Function.comp]
      rw [dec_congr (rch_high x)]
    have := Parts.step (E := besE n E F) (n + u) (M.map (n + ·)) (qs.map (List.map (n + ·))) (by rw [← List.map_cons (f := (n + ·)), e2]; exact ih)
    rw [← List.map_cons (f := (n + ·)), e1] at this
    exact this
theorem rch_low {n : Nat} {E F : Nat → Nat → Bool} {L M : List Nat} (hL : ∀ x ∈ L, x < n) {u : Nat} (hu : u ∈ L) (x : Nat) : Rch (besE n E F) (· ∈ L ++ M.map (n + ·)) u x ↔ Rch E (· ∈ L) u x := by
  constructor
  · intro h
    refine (rch_closed (T := fun x => x < n ∧ Rch E (· ∈ L) u x) ⟨hL u hu, .base⟩ (fun a b ha hE hb => ?_) x h).2
    rw [bes_low ha.1, Bool.and_eq_true, decide_eq_true_eq] at hE
    rcases List.mem_append.1 hb with h1 | h1
    · exact ⟨hE.1, .step ha.2 hE.2 h1⟩
    · obtain ⟨c, _, rfl⟩ := List.mem_map.1 h1
      omega
  · intro h
    induction h with
    | base => exact .base
    | @step a b h1 h2 h3 ih =>
      have ha := hL _ (rch_in (S := (· ∈ L)) hu _ h1)
      refine .step ih ?_ (List.mem_append_left _ h3)
      rw [bes_low ha, h2]
      simp [hL _ h3]
theorem parts_beside {n : Nat} {E F : Nat → Nat → Bool} {M : List Nat} {qs : List (List Nat)} (hq : Parts F M qs) {L : List Nat} {ps : List (List Nat)} (h : Parts E L ps) :
    (∀ x ∈ L, x < n) → Parts (besE n E F) (L ++ M.map (n + ·)) (ps ++ qs.map (List.map (n + ·))) := by
  induction h with
  | done => intro _; exact parts_high hq
  | step u L ps _ ih =>
    intro hL
    have e1 : partL (besE n E F) (u :: L ++ M.map (n + ·)) u = partL E (u :: L) u := by
      unfold partL
      rw [List.filter_append, List.filter_congr fun x _ => dec_congr (rch_low (M := M) hL (List.mem_cons_self ..) x)]
      have : (M.map (n + ·)).filter (fun x => dec (Rch (besE n E F) (· ∈ u :: L ++ M.map (n + ·)) u x)) = [] := by
        rw [List.filter_eq_nil_iff]
        intro x hx
        obtain ⟨c, _, rfl⟩ := List.mem_map.1 hx
        rw [dec_iff, rch_low hL (List.mem_cons_self ..)]
        intro hr
        have := hL _ (rch_in (S := (· ∈ u :: L)) (List.mem_cons_self ..) _ hr)
        omega
      rw [this, List.append_nil]
    have e2 : restL (besE n E F) (u :: L ++ M.map (n + ·)) u = restL E (u :: L) u ++ M.map (n + ·) := by
      unfold restL
      rw [List.filter_append]
      congr 1
      · exact List.filter_congr fun x _ => by rw [dec_congr (rch_low (M := M) hL (List.mem_cons_self ..) x)]
      · rw [List.filter_eq_self]
        intro x hx
        obtain ⟨c, _, rfl⟩ := List.mem_map.1 hx
        rw [Bool.not_eq_true', dec_false]
        rw [rch_low hL (List.mem_cons_self ..)]
        intro hr
        have := hL _ (rch_in (S := (· ∈ u :: L)) (List.mem_cons_self ..) _ hr)
        omega
    have := Parts.step (E := besE n E F) u (L ++ M.map (n + ·)) (ps ++ qs.map (List.map (n + ·))) (by
      rw [← List.cons_append, e2]
      exact ih fun x hx => hL x (mem_restL.1 hx).1)
    rw [← List.cons_append, e1] at this
    exact this
theorem range_beside (n m : Nat) : List.range (n + m) = List.range n ++ (List.range m).map (n + ·) := by rw [List.range_add]
/-- What stands beside has the parts of both. -/
theorem parts_sum {n m : Nat} {E F X : Nat → Nat → Bool} {ps qs rs : List (List Nat)} (hX : ∀ r j, r < n + m → j < n + m → X r j = besE n E F r j) (h1 : Parts E (List.range n) ps) (h2 : Parts F (List.range m) qs) (h3 : Parts X (List.range (n + m)) rs) : rs.length = ps.length + qs.length := by
  have h4 := parts_beside h2 h1 (n := n) (fun x hx => List.mem_range.1 hx)
  rw [← range_beside] at h4
  have h5 := parts_congr h3 fun r j hr hj => hX r j (List.mem_range.1 hr) (List.mem_range.1 hj)
  rw [parts_det h5 h4, List.length_append, List.length_map]
/-- What is joined is one part. -/
theorem parts_one {E : Nat → Nat → Bool} {L : List Nat} {u : Nat} {ps : List (List Nat)} (h : Parts E (u :: L) ps) (hr : ∀ x ∈ L, Rch E (· ∈ u :: L) u x) : ps.length = 1 := by
  cases h with
  | step _ _ ps h =>
    have e : restL E (u :: L) u = [] := by
      rw [List.eq_nil_iff_forall_not_mem]
      intro x hx
      have h1 := mem_restL.1 hx
      rcases List.mem_cons.1 h1.1 with rfl | h2
      · exact h1.2 .base
      · exact h1.2 (hr x h2)
    rw [e] at h
    cases h
    rfl
theorem parts_joined {n m : Nat} {E F X : Nat → Nat → Bool} {rs : List (List Nat)} (hn : 0 < n) (hm : 0 < m) (hX : ∀ r j, r < n + m → j < n + m → X r j = joiE n E F r j) (h : Parts X (List.range (n + m)) rs) : rs.length = 1 := by
  obtain ⟨k, hk⟩ : ∃ k, n + m = k + 1 := ⟨n + m - 1, by omega⟩
  have e : List.range (n + m) = 0 :: (List.range k).map Nat.succ := by rw [hk, List.range_succ_eq_map]
  have hmem : ∀ x, x < n + m → x ∈ 0 :: (List.range k).map Nat.succ := fun x hx => by rw [← e]; exact List.mem_range.2 hx
  rw [e] at h
  refine parts_one h fun x hx => ?_
  have hx2 : x < n + m := by
    have : x ∈ List.range (n + m) := by rw [e]; exact List.mem_cons_of_mem _ hx
    exact List.mem_range.1 this
  have hcross : ∀ r j, r < n + m → j < n + m → (r < n ↔ ¬ j < n) → X r j = true := fun r j hr hj hc => by
    rw [hX r j hr hj]
    unfold joiE
    by_cases h1 : r < n
    · simp [h1, hc.1 h1]
    · have : j < n := by
        by_cases h2 : j < n
        · exact h2
        · exact absurd (hc.2 h2) h1
      simp [h1, this]
  by_cases hxn : x < n
  · exact .step (.step .base (hcross 0 n (by omega) (by omega) ⟨fun _ => by omega, fun _ => hn⟩) (hmem n (by omega))) (hcross n x (by omega) hx2 ⟨fun _ => by omega, fun h => absurd hxn h⟩) (hmem x hx2)
  · exact .step .base (hcross 0 x (by omega) hx2 ⟨fun _ => hxn, fun _ => hn⟩) (hmem x hx2)

/-- The degrees beside each other. -/
theorem degN_low {n m : Nat} {E F X : Nat → Nat → Bool} (hX : ∀ r j, r < n + m → j < n + m → X r j = besE n E F r j) {v : Nat} (hv : v < n) : degN (n + m) X v = degN n E v := by
  unfold degN
  rw [range_beside, List.countP_append]
  have h1 : (List.range n).countP (X v) = (List.range n).countP (E v) := List.countP_congr fun x hx => by
    have := List.mem_range.1 hx
    rw [hX v x (by omega) (by omega), bes_low hv]
    simp [this]
  have h2 : ((List.range m).map (n + ·)).countP (X v) = 0 := List.countP_eq_zero.2 fun x hx => by
    obtain ⟨c, hc, rfl⟩ := List.mem_map.1 hx
    have := List.mem_range.1 hc
    rw [hX v _ (by omega) (by omega), bes_low hv]
    simp [show ¬ n + c < n by omega]
  omega
theorem degN_high {n m : Nat} {E F X : Nat → Nat → Bool} (hX : ∀ r j, r < n + m → j < n + m → X r j = besE n E F r j) {v : Nat} (hv : v < m) : degN (n + m) X (n + v) = degN m F v := by
  unfold degN
  rw [range_beside, List.countP_append, List.countP_map]
  have h1 : (List.range n).countP (X (n + v)) = 0 := List.countP_eq_zero.2 fun x hx => by
    have := List.mem_range.1 hx
    rw [hX _ x (by omega) (by omega), bes_high]
    simp; omega
  have h2 : (List.range m).countP (X (n + v) ∘ fun x => n + x) = (List.range m).countP (F v) := List.countP_congr fun x hx => by
    have := List.mem_range.1 hx
    simp only [Function.comp]
    rw [hX _ _ (by omega) (by omega), bes_high, show n + x - n = x by omega]
    simp
  omega
theorem totN_beside {n m : Nat} {E F X : Nat → Nat → Bool} (hX : ∀ r j, r < n + m → j < n + m → X r j = besE n E F r j) : totN (n + m) X = totN n E + totN m F := by
  unfold totN
  rw [range_beside, List.map_append, List.sum_append, List.map_map]
  congr 1
  · congr 1
    exact List.map_congr_left fun v hv => degN_low hX (List.mem_range.1 hv)
  · congr 1
    exact List.map_congr_left fun v hv => degN_high hX (List.mem_range.1 hv)
/-- The first vertices of what stands beside are the first graph. -/
theorem ind_beside {n m : Nat} {E F : Nat → Nat → Bool} : indL (matG (n + m) (besE n E F)) (allL n) = matG n E := by
  unfold indL
  rw [allL_length]
  refine matG_congr fun r j hr hj => ?_
  have hg : ∀ k, k < n → (allL n).getD k 0 = (k : Int) := fun k hk => by simp [allL, hk]
  unfold indE
  rw [hg r hr, hg j hj, Int.toNat_natCast]
  have := ofG_matG (E := besE n E F) (show r < n + m by omega) (show j < n + m by omega)
  unfold ofG at this
  rw [this, bes_low hr]
  simp [hj]

end Go.Proofs.YtkppbmfliejnmaaDoor

/- Walks: the reference's list operations that make memory. -/
namespace Go.Proofs.YtkppbmfliejnmaaDoor
open Go.RowKit

set_option maxRecDepth 100000 in
set_option maxHeartbeats 1000000 in
theorem l1Copy_any (v : Value) (n : Nat) (vals : List Value) (h1 : ∀ x ∈ vals, x.oneCell' = true) (hl : vals.length = n) (w : World) (hx : Sl w 2 v n vals) :
    Calls Tryd.prog 200 #[v] w fun e w' => ∃ u, e = .returned u ∧ w'.ownsRow w.heap.size 2 1 u n vals ∧ Below w.heap.size w w' := by
  have hn := hx
  obtain ⟨p, c, rfl, _, _, hn, _⟩ := hn
  have hx' := hx.below (below_alloc w (.cells #[] 2))
  have ho := ownsRow_empty w 2 1
  have hb := below_alloc w (.cells #[] 2)
  have hsz : w.heap.size ≤ (w.alloc (.cells #[] 2)).heap.size := hb.size
  have Hl := Lib.hid hl
  clear hl
  go_enter Tryd.func200, Tryd.ntmps200
  go_wp2_with (at_builtin; refine wpList_app ty_i64 rfl rfl rfl ho rfl hx' (by have := Hl.out; omega) h1 (by omega) hsz ?_; intro v' w1 hown' hg _)
  go_ret
  refine ⟨_, rfl, by simpa using hown', below_grown hb ho hg (Nat.le_refl _) hsz⟩

theorem oneCell_ints (K : IntKind) (xs : List Int) : ∀ x ∈ xs.map (Value.int K), x.oneCell' = true := by
  intro x hx
  obtain ⟨y, _, rfl⟩ := List.mem_map.1 hx
  rfl



end Go.Proofs.YtkppbmfliejnmaaDoor

/- Walk: the reference's list with one more. -/
namespace Go.Proofs.YtkppbmfliejnmaaDoor
open Go.RowKit

set_option maxRecDepth 100000 in
set_option maxHeartbeats 1000000 in
theorem l1Into_any (v : Value) (xs : List Int) (n : Int) (hl : xs.length ≤ 100000000) (w : World) (hx : Nums w 2 .i64 v xs) :
    Calls Tryd.prog 210 #[v, .int .i64 n] w fun e w' => ∃ u, e = .returned u ∧ Nums w' 2 .i64 u (intoL xs n) ∧ Below w.heap.size w w' := by
  have hx0 := Lib.hid hx
  obtain ⟨p, c, rfl, hp, hnc, hn, hat⟩ := hx
  go_enter Tryd.func210, Tryd.ntmps210
  go_wp2
  go_loop [5] (fun i => ∃ k : Nat, k ≤ xs.length ∧ i = .int .i64 k ∧ ∀ j (hj : j < xs.length), j < k → xs[j] < n) (fun i => xs.length - (intOf i).toNat)
  case atStart => exact ⟨0, Nat.zero_le _, rfl, fun j hj h => by omega⟩
  case round =>
    obtain ⟨k, hk, rfl, hlow⟩ := hrel
    have Hlow := Lib.hid hlow
    clear hlow
    by_cases hlt : k < xs.length
    · obtain ⟨b, o, rfl, hcell⟩ := hat.num hlt
      by_cases h1 : xs[k] < n
      · go_wp2
        go_round
        case rel =>
          refine ⟨k + 1, by omega, by go_num, fun j hj h => ?_⟩
          by_cases e : j = k
          · subst e; exact h1
          · exact Hlow.out j hj (by omega)
        case measure => simp [intOf]; omega
      · by_cases h2 : xs[k] = n
        · have h2' : (xs[k] == n) = true := by simpa using h2
          have H := Lib.hid (intoL_eq hlt Hlow.out h1 h2)
          clear h2
          go_wp2
          go_ret
          exact ⟨_, rfl, by rw [H.out]; exact hx0.out, Below.refl _ _⟩
        · have h2' : (xs[k] == n) = false := by simpa using h2
          have H := Lib.hid (intoL_new hk Hlow.out (fun _ => h1) (fun _ => h2))
          clear h2
          have hsl : Sl w 2 (.slice (some ⟨b, o, none⟩) k c) k ((xs.take k).map (Value.int .i64)) :=
            ⟨_, _, rfl, (fun e => by cases e), by omega, by omega, by rw [List.map_take]; exact hat.take k⟩
          have hkc : k < c := by omega
          have hd : Sl w 2 (.slice (some ⟨b, o + k, none⟩) (xs.length - k) (c - k)) (xs.length - k) ((xs.drop k).map (Value.int .i64)) :=
            ⟨_, _, rfl, (fun e => by cases e), by omega, by omega, by rw [List.map_drop]; exact hat.drop k⟩
          go_wp2_with (first
            | (go_at_call 200; refine (l1Copy_any _ k _ (oneCell_ints _ _) (by simp; omega) _ hsl).mono ?_; rintro e w1 ⟨u1, rfl, hown1, hb1⟩)
            | (at_builtin; refine wpList_app1 ty_i64 rfl rfl rfl hown1 rfl rfl (by omega) hb1.size ?_; intro v2 w2 hown2 hg2 _; have hb2 := below_grown hb1 hown1 hg2 (Nat.le_refl _) hb1.size; have hd2 : Sl w2 2 (.slice (some ⟨b, o + k, none⟩) (xs.length - k) (c - k)) (xs.length - k) ((xs.drop k).map (Value.int .i64)) := hd.below hb2)
            | (at_builtin; refine wpList_app ty_i64 rfl rfl rfl hown2 rfl hd2 (by simp) (oneCell_ints _ _) (by omega) hb2.size ?_; intro v3 w3 hown3 hg3 _))
          go_ret
          refine ⟨_, rfl, ?_, below_grown hb2 hown2 hg3 (Nat.le_refl _) hb2.size⟩
          have e : (xs.take k).map (Value.int .i64) ++ [Value.int .i64 n] ++ (xs.drop k).map (Value.int .i64) = (intoL xs n).map (Value.int .i64) := by rw [H.out]; simp
          rw [e] at hown3
          have hlen : k + 1 + (xs.length - k) = (intoL xs n).length := by rw [H.out]; simp; omega
          exact Nums.of_owns hown3 hlen (by omega)
    · obtain rfl : k = xs.length := by omega
      have H := Lib.hid (intoL_new hk Hlow.out (fun h => absurd h hlt) (fun h => absurd h hlt))
      have hsl : Sl w 2 (.slice p xs.length c) xs.length (xs.map (Value.int .i64)) := hx0.out
      have hfin : ∀ (w2 : World) (u : Value), w2.ownsRow w.heap.size 2 1 u (xs.length + 1 + 0) (xs.map (Value.int .i64) ++ [Value.int .i64 n] ++ []) → Nums w2 2 .i64 u (intoL xs n) := by
        intro w2 u ho
        have e : xs.map (Value.int .i64) ++ [Value.int .i64 n] ++ [] = (intoL xs n).map (Value.int .i64) := by rw [H.out]; simp
        rw [e] at ho
        exact Nums.of_owns ho (by rw [H.out]; simp) (by omega)
      rcases p with _ | a
      · obtain ⟨h0, rfl⟩ := hp rfl
        have h0' : xs = [] := List.eq_nil_of_length_eq_zero h0
        subst h0'
        go_wp2_with (first
          | (go_at_call 200; refine (l1Copy_any _ 0 _ (oneCell_ints _ _) rfl _ hsl).mono ?_; rintro e w1 ⟨u1, rfl, hown1, hb1⟩)
          | (at_builtin; refine wpList_app1 ty_i64 rfl rfl rfl hown1 rfl rfl (by omega) hb1.size ?_; intro v2 w2 hown2 hg2 _; have hb2 := below_grown hb1 hown1 hg2 (Nat.le_refl _) hb1.size)
          | (at_builtin; refine wpList_app ty_i64 rfl rfl rfl hown2 rfl (Sl.nothing _ _ _ _ (fun _ => rfl)) rfl (fun x hx => by cases hx) (by omega) hb2.size ?_; intro v3 w3 hown3 hg3 _))
        go_ret
        exact ⟨_, rfl, hfin _ _ hown3, below_grown hb2 hown2 hg3 (Nat.le_refl _) hb2.size⟩
      · by_cases hcl : c = xs.length
        · subst hcl
          go_wp2_with (first
            | (go_at_call 200; refine (l1Copy_any _ xs.length _ (oneCell_ints _ _) (by simp) _ hsl).mono ?_; rintro e w1 ⟨u1, rfl, hown1, hb1⟩)
            | (at_builtin; refine wpList_app1 ty_i64 rfl rfl rfl hown1 rfl rfl (by omega) hb1.size ?_; intro v2 w2 hown2 hg2 _; have hb2 := below_grown hb1 hown1 hg2 (Nat.le_refl _) hb1.size)
            | (at_builtin; refine wpList_app ty_i64 rfl rfl rfl hown2 rfl (Sl.nothing _ _ _ _ (fun e => by cases e)) rfl (fun x hx => by cases hx) (by omega) hb2.size ?_; intro v3 w3 hown3 hg3 _))
          go_ret
          exact ⟨_, rfl, hfin _ _ hown3, below_grown hb2 hown2 hg3 (Nat.le_refl _) hb2.size⟩
        · have hcl' : xs.length < c := by omega
          go_wp2_with (first
            | (go_at_call 200; refine (l1Copy_any _ xs.length _ (oneCell_ints _ _) (by simp) _ hsl).mono ?_; rintro e w1 ⟨u1, rfl, hown1, hb1⟩)
            | (at_builtin; refine wpList_app1 ty_i64 rfl rfl rfl hown1 rfl rfl (by omega) hb1.size ?_; intro v2 w2 hown2 hg2 _; have hb2 := below_grown hb1 hown1 hg2 (Nat.le_refl _) hb1.size)
            | (at_builtin; refine wpList_app ty_i64 rfl rfl rfl hown2 rfl (Sl.nothing _ _ _ _ (fun e => by cases e)) rfl (fun x hx => by cases hx) (by omega) hb2.size ?_; intro v3 w3 hown3 hg3 _))
          go_ret
          exact ⟨_, rfl, hfin _ _ hown3, below_grown hb2 hown2 hg3 (Nat.le_refl _) hb2.size⟩

end Go.Proofs.YtkppbmfliejnmaaDoor

/- Walks: the reference's fold of a vertex. -/
namespace Go.Proofs.YtkppbmfliejnmaaDoor
open Go.RowKit

def fdVal (f : Fd) : Value := .agg #[.int .i64 f.V, .int .i64 f.A, .int .i64 f.B]

theorem Rws.of_owned {w : World} {base EO EI : Nat} {v : Value} {g : List (List Int)} (vals : List Value) (hl : vals.length = g.length) (ho : w.ownsRow base EO 1 v g.length vals) (hn : g.length ≤ 1000000000)
    (hr : ∀ j, j < g.length → Nums w EI .i64 (vals.getD j undef) (row g j)) : Rws w EO EI v g := ⟨vals, hl, Sl.of_owns ho hn, hr⟩

theorem getD_append_left {α : Type} (l m : List α) (j : Nat) (d : α) (h : j < l.length) : (l ++ m).getD j d = l.getD j d := by simp [List.getElem?_append_left h]
theorem getD_append_last {α : Type} (l : List α) (x d : α) : (l ++ [x]).getD l.length d = x := by simp

theorem cell_new3 (w : World) (a b c : Value) (T : TypeId) : (w.alloc (.cells #[a, b, c] T)).cell? ⟨w.heap.size, 0, none⟩ = some a ∧ (w.alloc (.cells #[a, b, c] T)).cell? ⟨w.heap.size, 1, none⟩ = some b ∧ (w.alloc (.cells #[a, b, c] T)).cell? ⟨w.heap.size, 2, none⟩ = some c := by
  have := heap_alloc_new w (.cells #[a, b, c] T)
  refine ⟨?_, ?_, ?_⟩ <;> (unfold World.cell?; rw [this]; rfl)


end Go.Proofs.YtkppbmfliejnmaaDoor

/- Walks: graphs that the reference makes. -/
namespace Go.Proofs.YtkppbmfliejnmaaDoor
open Go.RowKit

/-- v is a graph whose outer row is the callee's own; its rows are read alone. -/
def SG (w : World) (base : Nat) (v : Value) (g : List (List Int)) : Prop :=
  ∃ u vals, v = .agg #[u] ∧ vals.length = g.length ∧ w.ownsRow base 33 1 u g.length vals ∧ ∀ j, j < g.length → Nums w 2 .i64 (vals.getD j undef) (row g j)
theorem SG.below {w w' : World} {base : Nat} {v : Value} {g : List (List Int)} (h : SG w base v g) (hb : Below w.heap.size w w') : SG w' base v g := by
  obtain ⟨u, vals, h1, h2, h3, h4⟩ := h
  exact ⟨u, vals, h1, h2, ownsRow_below h3 hb, fun j hj => (h4 j hj).below hb⟩
theorem SG.gr {w : World} {base : Nat} {v : Value} {g : List (List Int)} (h : SG w base v g) (hn : g.length ≤ 1000000000) : Gr w v g := by
  obtain ⟨u, vals, rfl, h2, h3, h4⟩ := h
  exact ⟨u, rfl, Rws.of_owned vals h2 h3 hn h4⟩
theorem SG.shape {w : World} {base : Nat} {v : Value} {g : List (List Int)} (h : SG w base v g) : ∃ p c, v = .agg #[.slice p g.length c] := by
  obtain ⟨u, vals, rfl, h2, h3, h4⟩ := h
  rcases h3.2 with ⟨rfl, h0⟩ | ⟨b, c, _, rfl, _⟩
  · exact ⟨none, 0, by rw [h0]⟩
  · exact ⟨_, _, rfl⟩

/-- Two boxes of a graph: the result's, and the one that grows. -/
theorem two_boxes (w : World) : ∃ W, W = (w.alloc (.cells #[.slice none 0 0] 29)).alloc (.cells #[.slice none 0 0] 29) ∧ Below w.heap.size w W ∧ W.heap.size = w.heap.size + 2 ∧
    Box W w.heap.size 29 (.slice none 0 0) ∧ Box W (w.heap.size + 1) 29 (.slice none 0 0) := by
  refine ⟨_, rfl, below_alloc2 _ _ _, by rw [size_alloc, size_alloc], (Box.new w _ _).alloc _, ?_⟩
  have := Box.new (w.alloc (.cells #[.slice none 0 0] 29)) (.slice none 0 0) 29
  rw [size_alloc] at this
  exact this

/-- What a round leaves that puts a row behind the others. -/
theorem box_step {w wr wc w7 : World} {k b7 c8 : Nat} {ov x rv : Value} {vals : List Value}
    (hbel : Below w.heap.size w wr) (hsz : w.heap.size + 2 ≤ wr.heap.size) (hbc : Below wr.heap.size wr wc)
    (hb2 : Box wr w.heap.size 29 x) (hb3 : Box wr (w.heap.size + 1) 29 ov) (hown : wr.ownsRow (w.heap.size + 2) 33 1 ov k vals)
    (hown7 : w7.ownsRow (w.heap.size + 2) 33 1 (.slice (some ⟨b7, 0, none⟩) (k + 1) c8) (k + 1) (vals ++ [rv])) (hg7 : wc.grownBy w7 ov.ownBlock) :
    ∃ W, W = w7.setCell ⟨w.heap.size + 1, 0, none⟩ (.slice (some ⟨b7, 0, none⟩) (k + 1) c8) ∧
      Below w.heap.size w W ∧ w.heap.size + 2 ≤ W.heap.size ∧ Box W w.heap.size 29 x ∧ Box W (w.heap.size + 1) 29 (.slice (some ⟨b7, 0, none⟩) (k + 1) c8) ∧ W.ownsRow (w.heap.size + 2) 33 1 (.slice (some ⟨b7, 0, none⟩) (k + 1) c8) (k + 1) (vals ++ [rv]) ∧
      (∀ base size n v (xs : List Value), wc.ownsRow base 2 size v n xs → W.ownsRow base 2 size v n xs) := by
  have hownc := ownsRow_below hown hbc
  have hszc := hbc.size
  have hsz7 := hg7.size
  have hb7 : Below (w.heap.size + 2) wc w7 := below_grown (Below.refl _ _) hownc hg7 (Nat.le_refl _) (by omega)
  have hb37 : Box w7 (w.heap.size + 1) 29 ov := (hb3.keep hbc).below hb7 (by omega)
  have hb9 : Below (w.heap.size + 1) w7 (w7.setCell ⟨w.heap.size + 1, 0, none⟩ (.slice (some ⟨b7, 0, none⟩) (k + 1) c8)) := (Below.refl _ _).setCell (by show w.heap.size + 1 ≤ w.heap.size + 1; omega) _
  have hall : Below (w.heap.size + 1) wr (w7.setCell ⟨w.heap.size + 1, 0, none⟩ (.slice (some ⟨b7, 0, none⟩) (k + 1) c8)) := ((hbc.mono (by omega)).trans (hb7.mono (by omega))).trans hb9
  refine ⟨_, rfl, hbel.trans (hall.mono (by omega)), by have := hall.size; omega, hb2.below hall (by omega), hb37.set _, ownsRow_setBox hown7 hb37 (by decide) _, fun base size n v xs h => ?_⟩
  exact ownsRow_setBox (ownsRow_other h hownc hg7 (by decide)) hb37 (by decide) _

set_option maxRecDepth 100000 in
set_option maxHeartbeats 2000000 in
theorem l1Empty_any (z : Int) (n : Nat) (hz : z = n) (hn : n ≤ 1000) (w : World) :
    Calls Tryd.prog 157 #[.int .i64 z] w fun e w' => ∃ u, e = .returned u ∧ SG w' w.heap.size u (List.replicate n []) ∧ Below w.heap.size w w' := by
  subst hz
  have START := Lib.hid (two_boxes w)
  go_enter Tryd.func157, Tryd.ntmps157
  go_wp2
  go_loopw [4] (fun i wr => ∃ (k : Nat) (ov : Value) (vals : List Value), k ≤ n ∧ i = .int .i64 k ∧ Below w.heap.size w wr ∧ w.heap.size + 2 ≤ wr.heap.size ∧
      Box wr w.heap.size 29 (.slice none 0 0) ∧ Box wr (w.heap.size + 1) 29 ov ∧ wr.ownsRow (w.heap.size + 2) 33 1 ov k vals ∧ vals.length = k ∧ ∀ j, j < k → ∃ a, vals.getD j undef = .slice (some a) 0 0)
    (fun i _ => n - (intOf i).toNat)
  case atStart =>
    obtain ⟨W, rfl, h1, h2, h3, h4⟩ := START.out
    exact ⟨0, _, [], Nat.zero_le _, rfl, h1, by omega, h3, h4, World.ownsRow_nil _ _ _ _, rfl, fun j hj => by omega⟩
  case round =>
    obtain ⟨k, ov, vals, hk, rfl, hbel, hsz, hb2, hb3, hown, hvl, hrows⟩ := hrel
    have Hvl := Lib.hid hvl
    have Hrows := Lib.hid hrows
    have Hb2 := Lib.hid hb2
    have Hb3 := Lib.hid hb3
    have Hown := Lib.hid hown
    clear hvl hrows hb3 hb2 hown
    by_cases hlt : k < n
    · have hba := Lib.hid (below_alloc wr (.cells #[] 2))
      have hownc := ownsRow_below Hown.out hba.out
      obtain ⟨c3, f3, _, _⟩ := Hb3.out
      have hob := fun o => (below_alloc2 wr (.cells #[] 2) o).at' c3
      go_wp2_with (at_builtin; refine wpList_app1s ty_rows rfl rfl rfl hownc (by rw [size_alloc]; rfl) rfl (by omega) (by rw [size_alloc]; omega) ?_; intro b7 c8 w7 hown7 hg7 _; have hb7 := below_grown (Below.refl (w.heap.size + 2) (wr.alloc (.cells #[] 2))) hownc hg7 (Nat.le_refl _) (by rw [size_alloc]; omega); have hob7 := hb7.at (by omega) ((below_alloc wr (.cells #[] 2)).at' c3); have hof7 := (hb7.frozen (p := ⟨w.heap.size + 1, 0, none⟩) (by show w.heap.size + 1 < _; omega)).trans (((below_alloc wr (.cells #[] 2)).frozen (p := ⟨w.heap.size + 1, 0, none⟩) (by show w.heap.size + 1 < _; omega)).trans f3))
      go_roundw
      case rel =>
        obtain ⟨W, rfl, r1, r2, r3, r4, r5, _⟩ := box_step hbel hsz hba.out Hb2.out Hb3.out Hown.out hown7 hg7
        refine ⟨k + 1, _, _, by omega, by go_num, r1, r2, r3, r4, r5, by simp [Hvl.out], fun j hj => ?_⟩
        by_cases e : j = k
        · subst e
          exact ⟨_, by rw [← Hvl.out]; exact getD_append_last _ _ _⟩
        · rw [getD_append_left _ _ _ _ (by have := Hvl.out; omega)]
          exact Hrows.out j (by omega)
      case measure => simp [intOf]; omega
    · obtain rfl : k = n := by omega
      obtain ⟨k2c, k2f, _⟩ := Hb2.out
      obtain ⟨k3c, k3f, _⟩ := Hb3.out
      obtain ⟨p9, c9, rfl⟩ : ∃ p c, ov = .slice p k c := by
        rcases Hown.out.2 with ⟨h1, h2⟩ | ⟨g1, cap, cur, h1, _⟩
        · exact ⟨none, 0, by rw [h1, h2]⟩
        · exact ⟨_, _, h1⟩
      go_wp2
      refine bodyPost_ret (v := .agg #[.slice p9 k c9]) (by simp [results, Tryd.results157, go_sem, k2c]) rfl ⟨_, rfl, ⟨_, vals, rfl, by simpa using Hvl.out, ?_, fun j hj => ?_⟩, ?_⟩
      · rw [List.length_replicate]; exact ownsRow_base (ownsRow_setBox Hown.out Hb2.out (by decide) (.slice p9 k c9)) (by omega)
      · rw [List.length_replicate] at hj
        obtain ⟨a, ha⟩ := Hrows.out j hj
        rw [ha, show row (List.replicate k ([] : List Int)) j = [] by simp [row, hj]]
        exact Sl.nothing _ _ _ _ (by simp)
      · exact hbel.setCell (by show w.heap.size ≤ w.heap.size; omega) _

set_option maxRecDepth 100000 in
theorem l1Edge_any (v : Value) (g : List (List Int)) (y z : Int) (u k : Nat) (hy : y = u) (hz : z = k) (hu : u < g.length) (w : World) (hg : Gr w v g) :
    Calls Tryd.prog 109 #[v, .int .i64 y, .int .i64 z] w fun e w' => e = .returned (.bool (dec ((k : Int) ∈ row g u))) ∧ Below w.heap.size w w' := by
  subst hy; subst hz
  obtain ⟨u0, rfl, hr⟩ := hg
  obtain ⟨p, c, rfl, _, _, hn⟩ := hr.shape
  have hb := below_alloc w (.cells #[.slice p g.length c] 29)
  obtain ⟨b, o, rp, rc, rfl, hcell, hnums⟩ := (hr.below hb).get hu
  change World.cell? _ _ = some (.slice rp (row g u).length rc) at hcell
  change Nums _ _ _ (.slice rp (row g u).length rc) (row g u) at hnums
  have Hb := Lib.hid hb
  clear hb hr
  go_enter Tryd.func109, Tryd.ntmps109
  go_wp2_with (go_at_call 158; refine (l1Has_any _ _ k _ hnums).mono ?_; rintro e w2 ⟨rfl, rfl⟩)
  go_ret
  exact ⟨rfl, Hb.out⟩

end Go.Proofs.YtkppbmfliejnmaaDoor

/- Walks: the program's graph of some vertices; a graph made of masks. -/
namespace Go.Proofs.YtkppbmfliejnmaaDoor
open Go.RowKit

theorem step_app1s {P : Program} {T E : TypeId} {z : Value} {bytes : Nat} (S : SlTy P T E z 1 bytes) {w : World} {ops : Array Oper} {o : Oper} {a : Act} {K : Act → World → Prop} {Q : Exit → Act → World → Prop} {F : Prop}
    (hgd : o.guard = none) {s x : Operand} (ho : o.op = .call { callee := .builtin .append, args := #[s, x], argTypes := #[T, T] })
    {base : Nat} {v : Value} {n : Nat} {xs : List Value} {el : Value} (hs : a.eval s = v) (hown : w.ownsRow base E 1 v n xs)
    (hx : a.eval x = .slice (some ⟨w.heap.size, 0, none⟩) 1 1) (h1 : el.oneCell' = true)
    (hnm : n < 1000000000) (hbase : base ≤ w.heap.size)
    (h : ∀ b c w', w'.ownsRow base E 1 (.slice (some ⟨b, 0, none⟩) (n + 1) c) (n + 1) (xs ++ [el]) → w.grownBy w' v.ownBlock → K (a.put o.dst (.slice (some ⟨b, 0, none⟩) (n + 1) c)) w') :
    if Region.wanted o (yielded ops a.tmps) = true then Oper.wp P o a (w.alloc (.cells #[el] E)) K Q else F := by
  have hw : Region.wanted o (yielded ops a.tmps) = true := by simp [Region.wanted, hgd]
  rw [if_pos hw]
  have hal : (w.alloc (.cells #[el] E)).heap.size = w.heap.size + 1 := by show (w.heap.push _).size = _; simp
  have hu : Sl (w.alloc (.cells #[el] E)) E (.slice (some ⟨w.heap.size, 0, none⟩) 1 1) 1 [el] := by
    refine ⟨_, 1, rfl, (fun e => by cases e), Nat.le_refl _, by omega, Or.inr ⟨w.heap.size, 0, #[el], (0, 0), rfl, heap_alloc_new w _, ?_⟩⟩
    intro j u hu
    match j, hu with
    | 0, hu => simpa using hu
    | j + 1, hu => simp at hu
  obtain ⟨v', w', hr, h2, h3, h4⟩ := run_app S (w.alloc (.cells #[el] E)) o.type base v n xs (hown.alloc _) _ 1 [el] hu (by simp) (by simpa using h1) (by omega) (by omega)
  unfold Oper.wp execOp
  simp only [ho, resolve, invoke, builtin, Sem.run_bind, Sem.run_pure, Result.andThen_ok, List.map_toArray, List.map_cons, List.map_nil, hs, hx, hr]
  rcases id h2.2 with ⟨_, h0⟩ | ⟨g, cap, cur, rfl, _⟩
  · omega
  · exact h g cap w' h2 ⟨h3.os, h3.tape, h3.output, by have := h3.size; omega, fun k hk hne => (h3.block k (by omega) hne).trans (Below.heap_alloc w _ k hk)⟩

set_option maxRecDepth 100000 in
set_option maxHeartbeats 4000000 in
theorem induced_any (x lv : Value) (a l : List Nat) (h16 : a.length ≤ 16) (ha : ∀ s ∈ a, s < 65536) (hl : ∀ v ∈ l, v < a.length) (hm : l.length ≤ 16) (w : World)
    (hx : Sl w 70 x a.length (a.map u32v)) (hn : Nums w 3 .i64 lv (natInts l)) :
    Calls Tryd.prog 116 #[x, lv] w fun e w' => ∃ u, e = .returned u ∧
      w'.ownsRow w.heap.size 70 1 u l.length ((indN l.length (bitE a l)).map u32v) ∧ Below w.heap.size w w' := by
  obtain ⟨p, c, rfl, _⟩ := id hx
  obtain ⟨lp, lc, rfl, _⟩ := id hn.shape
  have hll := natInts_length l
  rw [hll] at hn ⊢
  have HX := Lib.hid hx
  have HN := Lib.hid hn
  clear hx hn
  go_enter Tryd.func116, Tryd.ntmps116
  go_wp2_with (at_make; refine wpList_mk ty_nets rfl rfl rfl l.length rfl rfl rfl rfl (by omega) ?_; intro w1 hown1 hg1)
  have hb1 := grown_below hg1
  have START : Hid (w1.ownsRow w.heap.size 70 1 (.slice (some ⟨w.heap.size, 0, none⟩) l.length l.length) l.length ((indN l.length (rowsE (bitE a l) 0 0)).map u32v) ∧ Below w.heap.size w w1) := Lib.hid
    ⟨by rw [rows_start, List.map_replicate]; exact hown1, hb1⟩
  clear hg1 hown1 hb1
  go_loopw [15] (fun i wr => ∃ k : Nat, k ≤ l.length ∧ i = .int .i64 k ∧ wr.ownsRow w.heap.size 70 1 (.slice (some ⟨w.heap.size, 0, none⟩) l.length l.length) l.length ((indN l.length (rowsE (bitE a l) k 0)).map u32v) ∧ Below w.heap.size w wr)
    (fun i _ => l.length - (intOf i).toNat)
  case atStart => exact ⟨0, Nat.zero_le _, rfl, START.out⟩
  case round =>
    obtain ⟨i, hi, rfl, hown, hbel⟩ := hrel
    have HI := Lib.hid hown
    clear hown
    by_cases hlt : i < l.length
    · have hin := hl _ (List.getElem_mem hlt)
      obtain ⟨b, o, rfl, hci⟩ := (HN.out.below hbel).get (k := i) (by rw [hll]; exact hlt)
      rw [show (natInts l)[i]'(by rw [hll]; exact hlt) = ((l[i] : Nat) : Int) by simp [natInts]] at hci
      go_wp2_with fail
      clear hci
      go_loopw [22] (fun i' wr => ∃ k : Nat, k ≤ l.length ∧ i' = .int .i64 k ∧ wr.ownsRow w.heap.size 70 1 (.slice (some ⟨w.heap.size, 0, none⟩) l.length l.length) l.length ((indN l.length (rowsE (bitE a l) i k)).map u32v) ∧ Below w.heap.size w wr)
        (fun i' _ => l.length - (intOf i').toNat)
      case atStart => exact ⟨0, Nat.zero_le _, rfl, HI.out, hbel⟩
      case round =>
        clear HI hbel
        obtain ⟨k, hk, rfl, hown, hbel⟩ := hrel
        by_cases hlt2 : k < l.length
        · have hkn := hl _ (List.getElem_mem hlt2)
          obtain ⟨_, _, hbo, hck⟩ := (HN.out.below hbel).get (k := k) (by rw [hll]; exact hlt2)
          cases hbo
          rw [show (natInts l)[k]'(by rw [hll]; exact hlt2) = ((l[k] : Nat) : Int) by simp [natInts]] at hck
          obtain ⟨ab, ao, rfl, hca⟩ := nets_cell (HX.out.below hbel) hin
          have hs16 := ha _ (List.getElem_mem hin)
          have hbit : Hid (a[l[i]].testBit l[k] = bitE a l i k) := Lib.hid (by unfold bitE; simp [hlt, hlt2, hin])
          have e0 : (0 : Int) ≤ (k : Int) := by omega
          have hrl := hown.cellAt i (by omega)
          have hfz := hown.frozenAt i
          have hil : i < (indN l.length (rowsE (bitE a l) i k)).length := by rw [indN_length]; exact hlt
          rw [List.getElem?_map, List.getElem?_eq_getElem hil] at hrl
          change wr.cell? _ = some (.int .u32 (((indN l.length (rowsE (bitE a l) i k))[i] : Nat) : Int)) at hrl
          have hr16 := indN_lt16 (E := rowsE (bitE a l) i k) hm _ (List.getElem_mem hil)
          obtain ⟨ho2, hg2⟩ := hown.stored i (.int .u32 (((indN l.length (rowsE (bitE a l) i k))[i] ||| 2 ^ k : Nat) : Int))
          have hb2 := below_grown hbel hown hg2 (Nat.le_refl _) hbel.size
          have hyes : Hid (bitE a l i k = true → ((indN l.length (rowsE (bitE a l) i k)).map u32v).set i (.int .u32 (((indN l.length (rowsE (bitE a l) i k))[i] ||| 2 ^ k : Nat) : Int)) = (indN l.length (rowsE (bitE a l) i (k + 1))).map u32v) := Lib.hid (fun he => by
            rw [← rows_yes hlt hlt2 he, List.map_set]
            have : (indN l.length (rowsE (bitE a l) i k)).getD i 0 = (indN l.length (rowsE (bitE a l) i k))[i] := by simp [hil]
            rw [this]; rfl)
          have Hown := Lib.hid hown
          have Ho2 := Lib.hid ho2
          have Hb2 := Lib.hid hb2
          have Hbel := Lib.hid hbel
          have hor := or_u32 (indN l.length (rowsE (bitE a l) i k))[i] (2 ^ k) hr16 (pow_lt16 k (by omega))
          generalize (indN l.length (rowsE (bitE a l) i k))[i] = m0 at hrl hr16 hyes Ho2 Hb2 hor
          have c1 := Lib.hid (fun w => one_any (k : Int) k rfl (by omega) w)
          clear hown ho2 hb2 hg2 hbel hil
          cases hE' : bitE a l i k
          · rw [hE'] at hbit
            have hb' := hbit.out
            go_wp2_with (go_at_call 175; refine (has_any _ _ a[l[i]] l[k] rfl rfl (by omega) (by omega) _).mono ?_; rintro e w2 ⟨rfl, rfl⟩)
            go_roundw
            case rel => exact ⟨k + 1, by omega, by go_num, by rw [← rows_no hE']; exact Hown.out, Hbel.out⟩
            case measure => simp [intOf]; omega
          · rw [hE'] at hbit
            have hb' := hbit.out
            generalize 2 ^ k = pk at *
            go_upto_region 9 with (go_at_call 175; refine (has_any _ _ a[l[i]] l[k] rfl rfl (by omega) (by omega) _).mono ?_; rintro e w2 ⟨rfl, rfl⟩)
            go_region_with (go_at_call 156; refine (c1.out _).mono ?_; rintro e w2 ⟨rfl, rfl⟩)
            all_goals go_wp2
            all_goals go_roundw
            all_goals first
              | exact ⟨k + 1, by omega, by go_num, by rw [← hyes.out hE']; exact Ho2.out, ⟨Hb2.out.os, Hb2.out.tape, Hb2.out.output, Hb2.out.size, Hb2.out.block⟩⟩
              | (simp [intOf]; omega)
        · obtain rfl : k = l.length := by omega
          go_wp2
          go_roundw
          case rel => exact ⟨i + 1, by omega, by go_num, by rw [← rows_row]; exact hown, hbel⟩
          case measure => simp [intOf]; omega
    · obtain rfl : i = l.length := by omega
      go_wp2
      go_ret
      exact ⟨_, rfl, by rw [← rows_end]; exact HI.out, hbel⟩

end Go.Proofs.YtkppbmfliejnmaaDoor
