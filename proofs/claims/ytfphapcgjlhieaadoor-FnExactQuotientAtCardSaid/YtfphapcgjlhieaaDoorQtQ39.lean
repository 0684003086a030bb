/- Plain: a trail is there just where at most two are odd, and all edges are in one part. -/
import Derived.Test.YtfphapcgjlhieaaDoorQtQ37
import Derived.Test.YtfphapcgjlhieaaDoorQtQ38
namespace Go.Proofs.YtfphapcgjlhieaaDoor

theorem countP_le_one {α : Type} {p : α → Bool} : ∀ {l : List α}, (l.Pairwise fun a b => ¬ (p a = true ∧ p b = true)) → l.countP p ≤ 1
  | [], _ => by simp
  | a :: l, h => by
    obtain ⟨h1, h2⟩ := List.pairwise_cons.1 h
    have ih := countP_le_one h2
    rw [List.countP_cons]
    by_cases ha : p a = true
    · have : l.countP p = 0 := List.countP_eq_zero.2 fun b hb hp => h1 b hb ⟨ha, hp⟩
      simp [this, ha]
    · simp [ha]; exact ih
theorem countP_same {α : Type} {p : α → Bool} : ∀ {l : List α} {a b : α}, l.countP p ≤ 1 → a ∈ l → b ∈ l → p a = true → p b = true → a = b
  | [], _, _, _, h, _, _, _ => by simp at h
  | c :: l, a, b, h, ha, hb, hpa, hpb => by
    rw [List.countP_cons] at h
    rcases List.mem_cons.1 ha with rfl | ha2
    · rcases List.mem_cons.1 hb with rfl | hb2
      · rfl
      · exfalso
        have : 0 < l.countP p := List.countP_pos_iff.2 ⟨b, hb2, hpb⟩
        rw [if_pos hpa] at h
        omega
    · rcases List.mem_cons.1 hb with rfl | hb2
      · exfalso
        have : 0 < l.countP p := List.countP_pos_iff.2 ⟨a, ha2, hpa⟩
        rw [if_pos hpb] at h
        omega
      · exact countP_same (by omega) ha2 hb2 hpa hpb
theorem countP_but {p : Nat → Bool} {v : Nat} {l : List Nat} (hn : l.Nodup) : l.countP p ≤ l.countP (fun j => p j && !(j == v)) + 1 := by
  by_cases h : v ∈ l ∧ p v = true
  · rw [countP_cut hn h.1 h.2]
    exact Nat.le_refl _
  · have : l.countP p ≤ l.countP (fun j => p j && !(j == v)) := List.countP_mono_left fun x hx hp => by
      have : x ≠ v := fun e => h ⟨e ▸ hx, e ▸ hp⟩
      simp [hp, this]
    omega
theorem parts_closed {E : Nat → Nat → Bool} (hs : ∀ r j, E r j = true → E j r = true) {L : List Nat} {ps : List (List Nat)} (h : Parts E L ps) : ∀ p ∈ ps, ∀ x ∈ p, ∀ y, y ∈ L → E x y = true → y ∈ p := by
  induction h with
  | done => intro p hp; simp at hp
  | step u L ps h1 ih =>
    intro p hp x hx y hy hE
    rcases List.mem_cons.1 hp with rfl | hp
    · exact mem_partL.2 ⟨hy, .step (mem_partL.1 hx).2 hE hy⟩
    · have hx2 := mem_restL.1 (parts_in h1 p hp x hx)
      refine ih p hp x hx y (mem_restL.2 ⟨hy, fun hr => hx2.2 (.step hr (hs _ _ hE) hx2.1)⟩) hE
theorem parts_cover {E : Nat → Nat → Bool} {L : List Nat} {ps : List (List Nat)} (h : Parts E L ps) : ∀ x ∈ L, ∃ p ∈ ps, x ∈ p := by
  induction h with
  | done => intro x hx; simp at hx
  | step u L ps h1 ih =>
    intro x hx
    by_cases hr : Rch E (· ∈ u :: L) u x
    · exact ⟨_, by simp, mem_partL.2 ⟨hx, hr⟩⟩
    · obtain ⟨p, hp, hxp⟩ := ih x (mem_restL.2 ⟨hx, hr⟩)
      exact ⟨p, by simp [hp], hxp⟩
theorem conn_deg {n : Nat} {E : Nat → Nat → Bool} {p : List Nat} (h : ConnL E p) (hr : p.Pairwise (· < ·)) (hl : 1 < p.length) (hn : ∀ x ∈ p, x < n) : ∃ x ∈ p, 0 < degN n E x := by
  cases p with
  | nil => simp at hl
  | cons a p =>
    cases p with
    | nil => simp at hl
    | cons b p =>
      have hab : a < b := (List.pairwise_cons.1 hr).1 b (by simp)
      have h1 := h.2 b (by simp)
      simp only [List.headD_cons] at h1
      refine Classical.byContradiction fun hno => ?_
      have hd : ¬ 0 < degN n E a := fun hd => hno ⟨a, by simp, hd⟩
      have : b = a := rch_closed (T := fun x => x = a) rfl (fun x y hx hE hy => by
        subst hx
        exact absurd (degN_pos.2 ⟨y, hn y hy, hE⟩) hd) b h1
      omega
theorem deg_part {n : Nat} {E : Nat → Nat → Bool} (hs : ∀ r j, E r j = true → E j r = true) (hi : ∀ r, E r r = false) {ps : List (List Nat)} (h : Parts E (List.range n) ps) {x : Nat} (hx : x < n) (hd : 0 < degN n E x) : ∃ p ∈ ps, x ∈ p ∧ 1 < p.length := by
  obtain ⟨p, hp, hxp⟩ := parts_cover h x (List.mem_range.2 hx)
  obtain ⟨y, hy, hE⟩ := degN_pos.1 hd
  have hyp := parts_closed hs h p hp x hxp y (List.mem_range.2 hy) hE
  refine ⟨p, hp, hxp, ?_⟩
  match p, hxp, hyp with
  | [a], hxp, hyp =>
    exfalso
    have e1 : x = a := by simpa using hxp
    have e2 : y = a := by simpa using hyp
    rw [e1, e2, hi] at hE
    exact absurd hE (by decide)
  | a :: b :: p, _, _ => simp
theorem conn_two {n : Nat} {E : Nat → Nat → Bool} (hs : ∀ r j, E r j = true → E j r = true) {p : List Nat} (h : ConnL E p) (hn : ∀ x ∈ p, x < n) {x y : Nat} (hx : x ∈ p) (hy : y ∈ p) : Rch E (· ∈ List.range n) x y := by
  have hh : p.headD 0 ∈ p := by
    cases p with
    | nil => simp at hx
    | cons a p => simp
  exact rch_mono (fun z hz => List.mem_range.2 (hn z hz)) y (rch_trans (rch_sym hs hh (h.2 x hx)) (h.2 y hy))

theorem tr_iff {n : Nat} {E : Nat → Nat → Bool} (hs : ∀ r j, E r j = true → E j r = true) (hi : ∀ r, E r r = false) (hn : 0 < n) {ps : List (List Nat)} (h : Parts E (List.range n) ps) :
    (∃ v, v < n ∧ Tr n E v) ↔ (List.range n).countP (fun v => degN n E v % 2 == 1) ≤ 2 ∧ ps.countP (fun p => decide (1 < p.length)) ≤ 1 := by
  have hin : ∀ p ∈ ps, ∀ x ∈ p, x < n := fun p hp x hx => List.mem_range.1 (parts_in h p hp x hx)
  constructor
  · rintro ⟨v, hv, h1, h2⟩
    constructor
    · have e1 := countP_but (p := fun v => degN n E v % 2 == 1) (v := v) (l := List.range n) List.nodup_range
      have e2 : (List.range n).countP (fun j => degN n E j % 2 == 1 && !(j == v)) ≤ 1 := by
        refine countP_le_one (List.Pairwise.imp_of_mem (R := (· ≠ ·)) (fun {a b} ha hb hab => ?_) List.nodup_range)
        rintro ⟨k1, k2⟩
        simp only [Bool.and_eq_true, beq_iff_eq, Bool.not_eq_true', beq_eq_false_iff_ne] at k1 k2
        exact hab (h2 a b (List.mem_range.1 ha) (List.mem_range.1 hb) k1.1 k2.1 k1.2 k2.2)
      omega
    · refine countP_le_one (List.Pairwise.imp_of_mem (fun {p q} hp hq hpq => ?_) (parts_apart h))
      rintro ⟨k1, k2⟩
      simp only [decide_eq_true_eq] at k1 k2
      have hri := parts_ris h List.pairwise_lt_range
      obtain ⟨x, hx, hdx⟩ := conn_deg (parts_conn h p hp) (hri p hp) k1 (hin p hp)
      obtain ⟨y, hy, hdy⟩ := conn_deg (parts_conn h q hq) (hri q hq) k2 (hin q hq)
      have r1 := h1 x (hin p hp x hx) hdx
      have r2 := h1 y (hin q hq y hy) hdy
      have r3 : Rch E (· ∈ List.range n) x y := rch_trans (rch_sym hs (List.mem_range.2 hv) r1) r2
      have : y ∈ p := rch_closed (T := (· ∈ p)) hx (fun a b ha hE hb => parts_closed hs h p hp a ha b hb hE) y r3
      exact (hpq y this y hy).1 rfl
  · rintro ⟨h1, h2⟩
    have he := odd_even hs hi (fun _ => true) (n := n) (fun _ _ _ _ _ => rfl)
    have ef : (List.range n).filter (fun _ => true) = List.range n := List.filter_eq_self.2 fun _ _ => rfl
    rw [ef] at he
    have reach : ∀ v, v < n → 0 < degN n E v → ∀ x, x < n → 0 < degN n E x → Rch E (· ∈ List.range n) v x := by
      intro v hv hdv x hx hdx
      obtain ⟨p, hp, hvp, hlp⟩ := deg_part hs hi h hv hdv
      obtain ⟨q, hq, hxq, hlq⟩ := deg_part hs hi h hx hdx
      obtain rfl := countP_same h2 hp hq (by simpa using hlp) (by simpa using hlq)
      exact conn_two hs (parts_conn h p hp) (hin p hp) hvp hxq
    by_cases h0 : ∃ v, v < n ∧ oddV n E v
    · obtain ⟨v, hv, hov⟩ := h0
      have hdv : 0 < degN n E v := by unfold oddV at hov; omega
      refine ⟨v, hv, reach v hv hdv, fun x y hx hy hox hoy hxv hyv => ?_⟩
      refine Classical.byContradiction fun hxy => ?_
      have c1 := countP_cut (f := fun v => degN n E v % 2 == 1) List.nodup_range (List.mem_range.2 hv) (by unfold oddV at hov; simpa using hov)
      have c2 := countP_cut (f := fun j => (degN n E j % 2 == 1) && !(j == v)) List.nodup_range (List.mem_range.2 hx) (by unfold oddV at hox; simp [hox, hxv])
      have c3 := countP_cut (f := fun j => ((degN n E j % 2 == 1) && !(j == v)) && !(j == x)) List.nodup_range (List.mem_range.2 hy) (by unfold oddV at hoy; simp [hoy, hyv, Ne.symm hxy])
      omega
    · have hno : ∀ x, x < n → ¬ oddV n E x := fun x hx ho => h0 ⟨x, hx, ho⟩
      by_cases hd : ∃ v, v < n ∧ 0 < degN n E v
      · obtain ⟨v, hv, hdv⟩ := hd
        exact ⟨v, hv, reach v hv hdv, fun x y hx _ hox => absurd hox (hno x hx)⟩
      · exact ⟨0, hn, fun x hx hdx => absurd ⟨x, hx, hdx⟩ hd, fun x y hx _ hox => absurd hox (hno x hx)⟩

end Go.Proofs.YtfphapcgjlhieaaDoor
