/- Plain: connected sets; a search by a list that grows at its end. -/
import Derived.Test.YtfphapcgjlhieaaDoorGtQ25
import Derived.Test.YtfphapcgjlhieaaDoorGtQ32
namespace Go.Proofs.YtfphapcgjlhieaaDoor

/-- A list that is not empty and in which each is reached from the first. -/
def ConnL (E : Nat → Nat → Bool) (L : List Nat) : Prop := L ≠ [] ∧ ∀ x ∈ L, Rch E (· ∈ L) (L.headD 0) x
theorem connL_part {E : Nat → Nat → Bool} {u : Nat} {T : List Nat} : ConnL E (u :: T) ↔ partL E (u :: T) u = u :: T := by
  unfold ConnL partL
  rw [List.filter_eq_self]
  constructor
  · rintro ⟨_, h⟩ x hx
    exact dec_iff.2 (h x hx)
  · intro h
    exact ⟨by simp, fun x hx => dec_iff.1 (h x hx)⟩
theorem connL_len {E : Nat → Nat → Bool} {u : Nat} {T : List Nat} : ConnL E (u :: T) ↔ (partL E (u :: T) u).length = (u :: T).length := by
  rw [connL_part]
  constructor
  · intro h; rw [h]
  · intro h
    refine List.filter_eq_self.2 fun x hx => ?_
    exact List.length_filter_eq_length_iff.1 h x hx
theorem not_connL_nil (E : Nat → Nat → Bool) : ¬ ConnL E [] := fun h => h.1 rfl

theorem nodup_le : ∀ (n : Nat) (M : List Nat), M.Nodup → (∀ x ∈ M, x < n) → M.length ≤ n
  | 0, M, _, h => by
    cases M with
    | nil => exact Nat.le_refl _
    | cons x M => exact absurd (h x (by simp)) (Nat.not_lt_zero _)
  | n + 1, M, hn, h => by
    by_cases hm : n ∈ M
    · have h1 := List.length_erase_of_mem hm
      have h2 := nodup_le n (M.erase n) (hn.erase n) fun x hx => by
        have h3 := (List.Nodup.mem_erase_iff hn).1 hx
        have := h x h3.2
        have := h3.1
        omega
      omega
    · have := nodup_le n M hn fun x hx => by
        have := h x hx
        have : x ≠ n := fun e => hm (e ▸ hx)
        omega
      omega

/-- The search: what is met has a number that is not negative. -/
structure Bf (E : Nat → Nat → Bool) (L : List Nat) (n u : Nat) (F : List Int) (M : List Nat) : Prop where
  len : F.length = n
  nod : M.Nodup
  inn : ∀ x ∈ M, x ∈ L ∧ x < n
  rch : ∀ x ∈ M, Rch E (· ∈ L) u x
  frm : u ∈ M
  sgn : ∀ x, x < n → (0 ≤ F.getD x 0 ↔ x ∈ M)
  bnd : ∀ x, x < n → -1 ≤ F.getD x 0 ∧ F.getD x 0 < M.length
  stp : ∀ x, x < n → 0 < F.getD x 0 → ∃ y, y < n ∧ E y x = true ∧ F.getD y 0 + 1 = F.getD x 0
  zer : ∀ x, x < n → F.getD x 0 = 0 → x = u
theorem Bf.start {E : Nat → Nat → Bool} {L : List Nat} {n u : Nat} (hu : u ∈ L) (hn : u < n) : Bf E L n u ((List.replicate n (-1 : Int)).set u 0) [u] where
  len := by simp
  nod := by simp
  inn := fun x hx => by
    obtain rfl : x = u := by simpa using hx
    exact ⟨hu, hn⟩
  rch := fun x hx => by
    obtain rfl : x = u := by simpa using hx
    exact .base
  frm := by simp
  sgn := fun x hx => by
    rw [List.getD_eq_getElem?_getD, List.getElem?_set]
    by_cases e : u = x
    · subst e; simp [hn]
    · simp [e, hx, Ne.symm e]
  bnd := fun x hx => by
    rw [List.getD_eq_getElem?_getD, List.getElem?_set]
    by_cases e : u = x
    · subst e; simp [hn]
    · simp [e, hx]
  stp := fun x hx h => by
    rw [List.getD_eq_getElem?_getD, List.getElem?_set] at h
    by_cases e : u = x
    · subst e; simp [hn] at h
    · simp [e, hx] at h
  zer := fun x hx h => by
    rw [List.getD_eq_getElem?_getD, List.getElem?_set] at h
    by_cases e : u = x
    · exact e.symm
    · simp [e, hx] at h
theorem Bf.le {E : Nat → Nat → Bool} {L : List Nat} {n u : Nat} {F : List Int} {M : List Nat} (h : Bf E L n u F M) : M.length ≤ n := nodup_le n M h.nod fun x hx => (h.inn x hx).2
theorem Bf.add {E : Nat → Nat → Bool} {L : List Nat} {n u x y : Nat} {F : List Int} {M : List Nat} (h : Bf E L n u F M) (hx : x ∈ M) (hE : E x y = true) (hy : y ∈ L) (hn : y < n) (hm : y ∉ M) : Bf E L n u (F.set y (F.getD x 0 + 1)) (M ++ [y]) where
  len := by rw [List.length_set]; exact h.len
  nod := by
    rw [List.nodup_append]
    exact ⟨h.nod, by simp, fun a ha b hb => by
      obtain rfl : b = y := by simpa using hb
      exact fun e => hm (e ▸ ha)⟩
  inn := fun z hz => by
    rcases List.mem_append.1 hz with e | e
    · exact h.inn z e
    · obtain rfl : z = y := by simpa using e
      exact ⟨hy, hn⟩
  rch := fun z hz => by
    rcases List.mem_append.1 hz with e | e
    · exact h.rch z e
    · obtain rfl : z = y := by simpa using e
      exact .step (h.rch x hx) hE hy
  frm := List.mem_append_left _ h.frm
  sgn := fun z hz => by
    have hxn := (h.inn x hx).2
    have h0 := (h.sgn x hxn).2 hx
    generalize F.getD x 0 = q at h0 ⊢
    rw [List.getD_eq_getElem?_getD, List.getElem?_set]
    by_cases e : y = z
    · subst e
      simp [h.len, hn]
      omega
    · have := h.sgn z hz
      rw [List.getD_eq_getElem?_getD] at this
      simp [e, this, Ne.symm e]
  bnd := fun z hz => by
    have hxn := (h.inn x hx).2
    have h1 := h.bnd x hxn
    have h2 := h.bnd z hz
    generalize F.getD x 0 = q at h1 ⊢
    rw [List.getD_eq_getElem?_getD] at h2
    rw [List.getD_eq_getElem?_getD, List.getElem?_set, List.length_append]
    by_cases e : y = z
    · subst e
      simp [h.len, hn]
      omega
    · simp only [e, if_false]
      simp
      omega
  stp := fun z hz h0 => by
    have hxn := (h.inn x hx).2
    have hxy : x ≠ y := fun e => hm (e ▸ hx)
    have get : ∀ a, a ≠ y → (F.set y (F.getD x 0 + 1)).getD a 0 = F.getD a 0 := fun a ha => by
      rw [List.getD_eq_getElem?_getD, List.getD_eq_getElem?_getD, List.getElem?_set]
      simp [Ne.symm ha]
    by_cases e : z = y
    · subst e
      refine ⟨x, hxn, hE, ?_⟩
      rw [get x hxy, List.getD_eq_getElem?_getD (l := F.set _ _), List.getElem?_set]
      simp [h.len, hn]
    · rw [get z e] at h0 ⊢
      obtain ⟨q, h1, h2, h3⟩ := h.stp z hz h0
      refine ⟨q, h1, h2, ?_⟩
      rw [get q (fun e2 => hm (e2 ▸ (h.sgn q h1).1 (by omega)))]
      exact h3
  zer := fun z hz h0 => by
    have hxn := (h.inn x hx).2
    have h1 := (h.sgn x hxn).2 hx
    rw [List.getD_eq_getElem?_getD, List.getElem?_set] at h0
    by_cases e : y = z
    · subst e
      simp [h.len, hn] at h0
      rw [List.getD_eq_getElem?_getD] at h1
      omega
    · simp only [e, if_false] at h0
      exact h.zer z hz (by rw [List.getD_eq_getElem?_getD]; exact h0)
/-- Of the first so many met all neighbours are met. -/
def BfTo (E : Nat → Nat → Bool) (L M : List Nat) (i : Nat) : Prop := ∀ j, j < i → ∀ y, y ∈ L → E (M.getD j 0) y = true → y ∈ M
theorem BfTo.more {E : Nat → Nat → Bool} {L M : List Nat} {i y : Nat} (h : BfTo E L M i) (hi : i ≤ M.length) : BfTo E L (M ++ [y]) i := fun j hj z hz hE => by
  have e : (M ++ [y]).getD j 0 = M.getD j 0 := by simp [List.getElem?_append_left (show j < M.length by omega)]
  rw [e] at hE
  exact List.mem_append_left _ (h j hj z hz hE)
theorem Bf.done {E : Nat → Nat → Bool} {L : List Nat} {n u : Nat} {F : List Int} {M : List Nat} (h : Bf E L n u F M) (hc : BfTo E L M M.length) : ∀ x, x ∈ M ↔ x ∈ partL E L u := by
  intro x
  rw [mem_partL]
  constructor
  · intro hx
    exact ⟨(h.inn x hx).1, h.rch x hx⟩
  · rintro ⟨_, hx⟩
    refine rch_closed (T := (· ∈ M)) h.frm (fun a b ha hE hb => ?_) x hx
    obtain ⟨j, hj, e⟩ := List.getElem_of_mem ha
    exact hc j hj b hb (by have k : M.getD j 0 = a := by simp [hj, e]
                           rw [k]; exact hE)

end Go.Proofs.YtfphapcgjlhieaaDoor

/- Plain: the parts are connected, no two of them together, and all vertices are in them. -/
namespace Go.Proofs.YtfphapcgjlhieaaDoor

theorem rch_partL {E : Nat → Nat → Bool} {L : List Nat} {u : Nat} : ∀ x, Rch E (· ∈ L) u x → Rch E (· ∈ partL E L u) u x := by
  intro x h
  refine (rch_closed (T := fun x => Rch E (· ∈ L) u x ∧ Rch E (· ∈ partL E L u) u x) ⟨.base, .base⟩ (fun a b ha hE hb => ?_) x h).2
  have hb2 : Rch E (· ∈ L) u b := .step ha.1 hE hb
  exact ⟨hb2, .step ha.2 hE (mem_partL.2 ⟨hb, hb2⟩)⟩
theorem partL_head {E : Nat → Nat → Bool} {L : List Nat} {u : Nat} : partL E (u :: L) u = u :: (L.filter fun x => dec (Rch E (· ∈ u :: L) u x)) := by
  unfold partL
  exact List.filter_cons_of_pos (p := fun x => dec (Rch E (· ∈ u :: L) u x)) (dec_true .base)
theorem conn_partL {E : Nat → Nat → Bool} {L : List Nat} {u : Nat} : ConnL E (partL E (u :: L) u) := by
  have h := partL_head (E := E) (L := L) (u := u)
  refine ⟨by rw [h]; simp, fun x hx => ?_⟩
  have hh : (partL E (u :: L) u).headD 0 = u := by rw [h]; rfl
  rw [hh]
  exact rch_partL x (mem_partL.1 hx).2
theorem parts_conn {E : Nat → Nat → Bool} {L : List Nat} {ps : List (List Nat)} (h : Parts E L ps) : ∀ p ∈ ps, ConnL E p := by
  induction h with
  | done => intro p hp; simp at hp
  | step u L ps _ ih =>
    intro p hp
    rcases List.mem_cons.1 hp with rfl | hp
    · exact conn_partL
    · exact ih p hp
theorem parts_in {E : Nat → Nat → Bool} {L : List Nat} {ps : List (List Nat)} (h : Parts E L ps) : ∀ p ∈ ps, ∀ x ∈ p, x ∈ L := by
  induction h with
  | done => intro p hp; simp at hp
  | step u L ps _ ih =>
    intro p hp x hx
    rcases List.mem_cons.1 hp with rfl | hp
    · exact (mem_partL.1 hx).1
    · exact (mem_restL.1 (ih p hp x hx)).1
theorem parts_ris {E : Nat → Nat → Bool} {L : List Nat} {ps : List (List Nat)} (h : Parts E L ps) : L.Pairwise (· < ·) → ∀ p ∈ ps, p.Pairwise (· < ·) := by
  induction h with
  | done => intro _ p hp; simp at hp
  | step u L ps _ ih =>
    intro hL p hp
    rcases List.mem_cons.1 hp with rfl | hp
    · exact partL_rising hL u
    · exact ih (restL_rising hL u) p hp
/-- Between two parts there is nothing. -/
theorem parts_apart {E : Nat → Nat → Bool} {L : List Nat} {ps : List (List Nat)} (h : Parts E L ps) : ps.Pairwise fun p q => ∀ x ∈ p, ∀ y ∈ q, x ≠ y ∧ E x y = false := by
  induction h with
  | done => exact List.Pairwise.nil
  | step u L ps h1 ih =>
    refine List.Pairwise.cons (fun q hq x hx y hy => ?_) ih
    have hx2 := mem_partL.1 hx
    have hy2 := mem_restL.1 (parts_in h1 q hq y hy)
    refine ⟨fun e => hy2.2 (e ▸ hx2.2), ?_⟩
    cases hE : E x y with
    | false => rfl
    | true => exact absurd (.step hx2.2 hE hy2.1) hy2.2
theorem filter_not_len {α : Type} (p : α → Bool) : ∀ l : List α, (l.filter p).length + (l.filter fun x => !p x).length = l.length
  | [] => rfl
  | a :: l => by
    have ih := filter_not_len p l
    cases h : p a <;> simp [List.filter_cons, h] <;> omega
theorem parts_total {E : Nat → Nat → Bool} {L : List Nat} {ps : List (List Nat)} (h : Parts E L ps) : (ps.map List.length).sum = L.length := by
  induction h with
  | done => rfl
  | step u L ps _ ih =>
    have := filter_not_len (fun x => dec (Rch E (· ∈ u :: L) u x)) (u :: L)
    simp only [List.map_cons, List.sum_cons, ih]
    exact this
/-- Two sets without an edge between them are not connected together. -/
theorem not_conn_two {E : Nat → Nat → Bool} (hs : ∀ r j, E r j = true → E j r = true) {p q S : List Nat} (hp : p ≠ []) (hq : q ≠ []) (hS : ∀ x, x ∈ S ↔ x ∈ p ∨ x ∈ q) (h : ∀ x ∈ p, ∀ y ∈ q, x ≠ y ∧ E x y = false) : ¬ ConnL E S := by
  rintro ⟨hne, hr⟩
  have key : ∀ p q : List Nat, q ≠ [] → (∀ x, x ∈ S ↔ x ∈ p ∨ x ∈ q) → (∀ x ∈ p, ∀ y ∈ q, x ≠ y ∧ E x y = false) → S.headD 0 ∈ p → False := by
    intro p q hq hS h h0
    have hcl : ∀ x, Rch E (· ∈ S) (S.headD 0) x → x ∈ p := rch_closed h0 fun a b ha hE hb => by
      rcases (hS b).1 hb with h1 | h1
      · exact h1
      · have := (h a ha b h1).2
        rw [this] at hE
        exact absurd hE (by decide)
    obtain ⟨y, hy⟩ := List.exists_mem_of_ne_nil q hq
    have := hcl y (hr y ((hS y).2 (.inr hy)))
    exact (h y this y hy).1 rfl
  have hh : S.headD 0 ∈ S := by
    cases S with
    | nil => exact absurd rfl hne
    | cons a S => simp
  rcases (hS _).1 hh with h1 | h1
  · exact key p q hq hS h h1
  · refine key q p hp (fun x => (hS x).trans Or.comm) (fun x hx y hy => ?_) h1
    have := h y hy x hx
    refine ⟨fun e => this.1 e.symm, ?_⟩
    cases hE : E x y with
    | false => rfl
    | true =>
      have h2 := hs _ _ hE
      rw [this.2] at h2
      exact absurd h2 (by decide)

end Go.Proofs.YtfphapcgjlhieaaDoor

/- Plain: a trail is there just where at most two are odd, and all edges are in one part. -/
namespace Go.Proofs.YtfphapcgjlhieaaDoor

theorem countP_le_one {α : Type} {p : α → Bool} : ∀ {l : List α}, (l.Pairwise fun a b => ¬ (p a = true ∧ p b = true)) → l.countP p ≤ 1
  | [], _ => by simp
  | a :: l, h => by
    obtain ⟨h1, h2⟩ := List.pairwise_cons.1 h
    have ih := countP_le_one h2
    rw [List.countP_cons]
    by_cases ha : p a = true
    · have : l.countP p = 0 := List.countP_eq_zero.2 fun b hb hp => h1 b hb ⟨ha, hp⟩
      simp [this, ha]
    · simp [ha]; exact ih
theorem countP_same {α : Type} {p : α → Bool} : ∀ {l : List α} {a b : α}, l.countP p ≤ 1 → a ∈ l → b ∈ l → p a = true → p b = true → a = b
  | [], _, _, _, h, _, _, _ => by simp at h
  | c :: l, a, b, h, ha, hb, hpa, hpb => by
    rw [List.countP_cons] at h
    rcases List.mem_cons.1 ha with rfl | ha2
    · rcases List.mem_cons.1 hb with rfl | hb2
      · rfl
      · exfalso
        have : 0 < l.countP p := List.countP_pos_iff.2 ⟨b, hb2, hpb⟩
        rw [if_pos hpa] at h
        omega
    · rcases List.mem_cons.1 hb with rfl | hb2
      · exfalso
        have : 0 < l.countP p := List.countP_pos_iff.2 ⟨a, ha2, hpa⟩
        rw [if_pos hpb] at h
        omega
      · exact countP_same (by omega) ha2 hb2 hpa hpb
theorem countP_but {p : Nat → Bool} {v : Nat} {l : List Nat} (hn : l.Nodup) : l.countP p ≤ l.countP (fun j => p j && !(j == v)) + 1 := by
  by_cases h : v ∈ l ∧ p v = true
  · rw [countP_cut hn h.1 h.2]
    exact Nat.le_refl _
  · have : l.countP p ≤ l.countP (fun j => p j && !(j == v)) := List.countP_mono_left fun x hx hp => by
      have : x ≠ v := fun e => h ⟨e ▸ hx, e ▸ hp⟩
      simp [hp, this]
    omega
theorem parts_closed {E : Nat → Nat → Bool} (hs : ∀ r j, E r j = true → E j r = true) {L : List Nat} {ps : List (List Nat)} (h : Parts E L ps) : ∀ p ∈ ps, ∀ x ∈ p, ∀ y, y ∈ L → E x y = true → y ∈ p := by
  induction h with
  | done => intro p hp; simp at hp
  | step u L ps h1 ih =>
    intro p hp x hx y hy hE
    rcases List.mem_cons.1 hp with rfl | hp
    · exact mem_partL.2 ⟨hy, .step (mem_partL.1 hx).2 hE hy⟩
    · have hx2 := mem_restL.1 (parts_in h1 p hp x hx)
      refine ih p hp x hx y (mem_restL.2 ⟨hy, fun hr => hx2.2 (.step hr (hs _ _ hE) hx2.1)⟩) hE
theorem parts_cover {E : Nat → Nat → Bool} {L : List Nat} {ps : List (List Nat)} (h : Parts E L ps) : ∀ x ∈ L, ∃ p ∈ ps, x ∈ p := by
  induction h with
  | done => intro x hx; simp at hx
  | step u L ps h1 ih =>
    intro x hx
    by_cases hr : Rch E (· ∈ u :: L) u x
    · exact ⟨_, by simp, mem_partL.2 ⟨hx, hr⟩⟩
    · obtain ⟨p, hp, hxp⟩ := ih x (mem_restL.2 ⟨hx, hr⟩)
      exact ⟨p, by simp [hp], hxp⟩
theorem conn_deg {n : Nat} {E : Nat → Nat → Bool} {p : List Nat} (h : ConnL E p) (hr : p.Pairwise (· < ·)) (hl : 1 < p.length) (hn : ∀ x ∈ p, x < n) : ∃ x ∈ p, 0 < degN n E x := by
  cases p with
  | nil => simp at hl
  | cons a p =>
    cases p with
    | nil => simp at hl
    | cons b p =>
      have hab : a < b := (List.pairwise_cons.1 hr).1 b (by simp)
      have h1 := h.2 b (by simp)
      simp only [List.headD_cons] at h1
      refine Classical.byContradiction fun hno => ?_
      have hd : ¬ 0 < degN n E a := fun hd => hno ⟨a, by simp, hd⟩
      have : b = a := rch_closed (T := fun x => x = a) rfl (fun x y hx hE hy => by
        subst hx
        exact absurd (degN_pos.2 ⟨y, hn y hy, hE⟩) hd) b h1
      omega
theorem deg_part {n : Nat} {E : Nat → Nat → Bool} (hs : ∀ r j, E r j = true → E j r = true) (hi : ∀ r, E r r = false) {ps : List (List Nat)} (h : Parts E (List.range n) ps) {x : Nat} (hx : x < n) (hd : 0 < degN n E x) : ∃ p ∈ ps, x ∈ p ∧ 1 < p.length := by
  obtain ⟨p, hp, hxp⟩ := parts_cover h x (List.mem_range.2 hx)
  obtain ⟨y, hy, hE⟩ := degN_pos.1 hd
  have hyp := parts_closed hs h p hp x hxp y (List.mem_range.2 hy) hE
  refine ⟨p, hp, hxp, ?_⟩
  match p, hxp, hyp with
  | [a], hxp, hyp =>
    exfalso
    have e1 : x = a := by simpa using hxp
    have e2 : y = a := by simpa using hyp
    rw [e1, e2, hi] at hE
    exact absurd hE (by decide)
  | a :: b :: p, _, _ => simp
theorem conn_two {n : Nat} {E : Nat → Nat → Bool} (hs : ∀ r j, E r j = true → E j r = true) {p : List Nat} (h : ConnL E p) (hn : ∀ x ∈ p, x < n) {x y : Nat} (hx : x ∈ p) (hy : y ∈ p) : Rch E (· ∈ List.range n) x y := by
  have hh : p.headD 0 ∈ p := by
    cases p with
    | nil => simp at hx
    | cons a p => simp
  exact rch_mono (fun z hz => List.mem_range.2 (hn z hz)) y (rch_trans (rch_sym hs hh (h.2 x hx)) (h.2 y hy))

theorem tr_iff {n : Nat} {E : Nat → Nat → Bool} (hs : ∀ r j, E r j = true → E j r = true) (hi : ∀ r, E r r = false) (hn : 0 < n) {ps : List (List Nat)} (h : Parts E (List.range n) ps) :
    (∃ v, v < n ∧ Tr n E v) ↔ (List.range n).countP (fun v => degN n E v % 2 == 1) ≤ 2 ∧ ps.countP (fun p => decide (1 < p.length)) ≤ 1 := by
  have hin : ∀ p ∈ ps, ∀ x ∈ p, x < n := fun p hp x hx => List.mem_range.1 (parts_in h p hp x hx)
  constructor
  · rintro ⟨v, hv, h1, h2⟩
    constructor
    · have e1 := countP_but (p := fun v => degN n E v % 2 == 1) (v := v) (l := List.range n) List.nodup_range
      have e2 : (List.range n).countP (fun j => degN n E j % 2 == 1 && !(j == v)) ≤ 1 := by
        refine countP_le_one (List.Pairwise.imp_of_mem (R := (· ≠ ·)) (fun {a b} ha hb hab => ?_) List.nodup_range)
        rintro ⟨k1, k2⟩
        simp only [Bool.and_eq_true, beq_iff_eq, Bool.not_eq_true', beq_eq_false_iff_ne] at k1 k2
        exact hab (h2 a b (List.mem_range.1 ha) (List.mem_range.1 hb) k1.1 k2.1 k1.2 k2.2)
      omega
    · refine countP_le_one (List.Pairwise.imp_of_mem (fun {p q} hp hq hpq => ?_) (parts_apart h))
      rintro ⟨k1, k2⟩
      simp only [decide_eq_true_eq] at k1 k2
      have hri := parts_ris h List.pairwise_lt_range
      obtain ⟨x, hx, hdx⟩ := conn_deg (parts_conn h p hp) (hri p hp) k1 (hin p hp)
      obtain ⟨y, hy, hdy⟩ := conn_deg (parts_conn h q hq) (hri q hq) k2 (hin q hq)
      have r1 := h1 x (hin p hp x hx) hdx
      have r2 := h1 y (hin q hq y hy) hdy
      have r3 : Rch E (· ∈ List.range n) x y := rch_trans (rch_sym hs (List.mem_range.2 hv) r1) r2
      have : y ∈ p := rch_closed (T := (· ∈ p)) hx (fun a b ha hE hb => parts_closed hs h p hp a ha b hb hE) y r3
      exact (hpq y this y hy).1 rfl
  · rintro ⟨h1, h2⟩
    have he := odd_even hs hi (fun _ => true) (n := n) (fun _ _ _ _ _ => rfl)
    have ef : (List.range n).filter (fun _ => true) = List.range n := List.filter_eq_self.2 fun _ _ => rfl
    rw [ef] at he
    have reach : ∀ v, v < n → 0 < degN n E v → ∀ x, x < n → 0 < degN n E x → Rch E (· ∈ List.range n) v x := by
      intro v hv hdv x hx hdx
      obtain ⟨p, hp, hvp, hlp⟩ := deg_part hs hi h hv hdv
      obtain ⟨q, hq, hxq, hlq⟩ := deg_part hs hi h hx hdx
      obtain rfl := countP_same h2 hp hq (by simpa using hlp) (by simpa using hlq)
      exact conn_two hs (parts_conn h p hp) (hin p hp) hvp hxq
    by_cases h0 : ∃ v, v < n ∧ oddV n E v
    · obtain ⟨v, hv, hov⟩ := h0
      have hdv : 0 < degN n E v := by unfold oddV at hov; omega
      refine ⟨v, hv, reach v hv hdv, fun x y hx hy hox hoy hxv hyv => ?_⟩
      refine Classical.byContradiction fun hxy => ?_
      have c1 := countP_cut (f := fun v => degN n E v % 2 == 1) List.nodup_range (List.mem_range.2 hv) (by unfold oddV at hov; simpa using hov)
      have c2 := countP_cut (f := fun j => (degN n E j % 2 == 1) && !(j == v)) List.nodup_range (List.mem_range.2 hx) (by unfold oddV at hox; simp [hox, hxv])
      have c3 := countP_cut (f := fun j => ((degN n E j % 2 == 1) && !(j == v)) && !(j == x)) List.nodup_range (List.mem_range.2 hy) (by unfold oddV at hoy; simp [hoy, hyv, Ne.symm hxy])
      omega
    · have hno : ∀ x, x < n → ¬ oddV n E x := fun x hx ho => h0 ⟨x, hx, ho⟩
      by_cases hd : ∃ v, v < n ∧ 0 < degN n E v
      · obtain ⟨v, hv, hdv⟩ := hd
        exact ⟨v, hv, reach v hv hdv, fun x y hx _ hox => absurd hox (hno x hx)⟩
      · exact ⟨0, hn, fun x hx hdx => absurd ⟨x, hx, hdx⟩ hd, fun x y hx _ hox => absurd hox (hno x hx)⟩

end Go.Proofs.YtfphapcgjlhieaaDoor
