/- Plain: parts by their members; a vertex that parts two others; bridges and parts. -/
import Derived.Test.YtiooindlpinjhaaDoorBbQ12
import Derived.Test.YtiooindlpinjhaaDoorBbQ15
namespace Go.Proofs.YtiooindlpinjhaaDoor

/-! ### Lists without repetition -/
theorem nodup_sub {α : Type} : ∀ (A B : List α), A.Nodup → (∀ x ∈ A, x ∈ B) → A.length ≤ B.length
  | [], _, _, _ => Nat.zero_le _
  | a :: A, B, hn, h => by
    rw [List.nodup_cons] at hn
    obtain ⟨s, t, rfl⟩ := List.append_of_mem (h a (List.mem_cons_self ..))
    have := nodup_sub A (s ++ t) hn.2 (fun x hx => by
      have h1 := h x (List.mem_cons_of_mem _ hx)
      rcases List.mem_append.1 h1 with h2 | h2
      · exact List.mem_append_left _ h2
      · rcases List.mem_cons.1 h2 with h3 | h3
        · exact absurd (h3 ▸ hx) hn.1
        · exact List.mem_append_right _ h3)
    rw [List.length_append] at this
    rw [List.length_cons, List.length_append, List.length_cons]
    omega
theorem nodup_snoc2 {α : Type} {A : List α} {a b : α} (h : A.Nodup) (ha : a ∉ A) (hb : b ∉ A) (hab : a ≠ b) : (A ++ [a, b]).Nodup := by
  rw [List.nodup_append]
  refine ⟨h, by simp [hab], fun x hx y hy e => ?_⟩
  subst e
  rcases List.mem_cons.1 hy with e | e
  · exact ha (e ▸ hx)
  · rw [List.mem_singleton] at e
    exact hb (e ▸ hx)

/-! ### Parts by their members -/
section
variable {E : Nat → Nat → Bool}
theorem rch_rest (hs : ∀ r j, E r j = true → E j r = true) {L : List Nat} {u x : Nat} (_hu : u ∈ L) (hx : x ∈ restL E L u) (y : Nat) : Rch E (· ∈ L) x y ↔ Rch E (· ∈ restL E L u) x y := by
  obtain ⟨hxL, hnx⟩ := mem_restL.1 hx
  constructor
  · intro h
    have key : ∀ y, Rch E (· ∈ L) x y → y ∈ restL E L u ∧ Rch E (· ∈ restL E L u) x y := by
      refine rch_closed ⟨hx, .base⟩ fun a b ha hE hb => ?_
      have h1 : b ∈ restL E L u := mem_restL.2 ⟨hb, fun h2 => (mem_restL.1 ha.1).2 (.step h2 (hs _ _ hE) (mem_restL.1 ha.1).1)⟩
      exact ⟨h1, .step ha.2 hE h1⟩
    exact (key y h).2
  · exact rch_mono (fun z hz => (mem_restL.1 hz).1) y
theorem partL_rest (hs : ∀ r j, E r j = true → E j r = true) {L : List Nat} {u x : Nat} (hu : u ∈ L) (hx : x ∈ restL E L u) : partL E (restL E L u) x = partL E L x := by
  have h1 : partL E L x = (partL E L x).filter fun y => !dec (Rch E (· ∈ L) u y) := by
    refine (List.filter_eq_self.2 fun y hy => ?_).symm
    have hy := (mem_partL.1 hy)
    have : ¬ Rch E (· ∈ L) u y := fun h => (mem_restL.1 hx).2 (rch_trans h (rch_sym hs (mem_restL.1 hx).1 hy.2))
    rw [dec_false this]; rfl
  rw [h1]
  unfold partL restL
  rw [List.filter_filter, List.filter_filter]
  refine List.filter_congr fun y hy => ?_
  rw [Bool.and_comm, dec_congr (rch_rest hs hu hx y)]
  rfl
theorem partL_eq (hs : ∀ r j, E r j = true → E j r = true) {L : List Nat} {x y : Nat} (hx : x ∈ L) (h : Rch E (· ∈ L) x y) : partL E L x = partL E L y := by
  unfold partL
  refine List.filter_congr fun z _ => dec_congr ⟨fun k => rch_trans (rch_sym hs hx h) k, fun k => rch_trans h k⟩
theorem parts_mem (hs : ∀ r j, E r j = true → E j r = true) {L : List Nat} {ps : List (List Nat)} (h : Parts E L ps) : ∀ p, p ∈ ps ↔ ∃ x ∈ L, p = partL E L x := by
  induction h with
  | done => intro p; simp
  | step u L ps hp ih =>
    intro p
    have hu : u ∈ u :: L := List.mem_cons_self ..
    rw [List.mem_cons]
    constructor
    · rintro (rfl | h)
      · exact ⟨u, hu, rfl⟩
      · obtain ⟨x, hx, rfl⟩ := (ih p).1 h
        exact ⟨x, (mem_restL.1 hx).1, partL_rest hs hu hx⟩
    · rintro ⟨x, hx, rfl⟩
      by_cases h1 : Rch E (· ∈ u :: L) u x
      · exact .inl (partL_eq hs hu h1).symm
      · have hx' : x ∈ restL E (u :: L) u := mem_restL.2 ⟨hx, h1⟩
        exact .inr ((ih _).2 ⟨x, hx', (partL_rest hs hu hx').symm⟩)
theorem self_partL {L : List Nat} {x : Nat} (hx : x ∈ L) : x ∈ partL E L x := mem_partL.2 ⟨hx, .base⟩
theorem parts_nodup (hs : ∀ r j, E r j = true → E j r = true) {L : List Nat} {ps : List (List Nat)} (h : Parts E L ps) : ps.Nodup := by
  induction h with
  | done => exact List.nodup_nil
  | step u L ps hp ih =>
    rw [List.nodup_cons]
    refine ⟨fun h1 => ?_, ih⟩
    obtain ⟨x, hx, e⟩ := (parts_mem hs hp _).1 h1
    have h2 : x ∈ partL E (u :: L) u := by rw [e]; exact self_partL hx
    exact (mem_restL.1 hx).2 (mem_partL.1 h2).2
/-- The part of x is the one that has x. -/
theorem parts_at (hs : ∀ r j, E r j = true → E j r = true) {L : List Nat} {ps : List (List Nat)} (h : Parts E L ps) {p : List Nat} (hp : p ∈ ps) {x : Nat} (hx : x ∈ p) : p = partL E L x ∧ x ∈ L := by
  obtain ⟨z, hz, rfl⟩ := (parts_mem hs h p).1 hp
  have := mem_partL.1 hx
  exact ⟨partL_eq hs hz this.2, this.1⟩
theorem parts_oneB (hs : ∀ r j, E r j = true → E j r = true) {L : List Nat} {ps : List (List Nat)} (h : Parts E L ps) (w : Nat) : ps.length ≤ (ps.filter fun p => !decide (w ∈ p)).length + 1 := by
  have h1 := filter_not_len (fun p : List Nat => decide (w ∈ p)) ps
  have h2 : (ps.filter fun p => decide (w ∈ p)).length ≤ [partL E L w].length := nodup_sub _ _ (List.Pairwise.filter _ (parts_nodup hs h)) fun p hp => by
    obtain ⟨hp1, hp2⟩ := List.mem_filter.1 hp
    rw [List.mem_singleton]
    exact (parts_at hs h hp1 (by simpa using hp2)).1
  simp only [List.length_singleton] at h2
  omega
theorem parts_twoB (hs : ∀ r j, E r j = true → E j r = true) {L : List Nat} {ps : List (List Nat)} (h : Parts E L ps) {w : Nat} (hw : w ∈ L) : (ps.filter fun p => !decide (w ∈ p)).length + 1 ≤ ps.length := by
  have h1 := filter_not_len (fun p : List Nat => decide (w ∈ p)) ps
  have h2 : 0 < (ps.filter fun p => decide (w ∈ p)).length := List.length_pos_of_mem (a := partL E L w) (List.mem_filter.2 ⟨(parts_mem hs h _).2 ⟨w, hw, rfl⟩, by simpa using self_partL hw⟩)
  omega

/-! ### A vertex between two others -/
theorem rch_avoid {L : List Nat} {w x : Nat} (h : ¬ Rch E (· ∈ L) x w) (_hx : x ≠ w) (y : Nat) : Rch E (· ∈ L) x y ↔ Rch E (· ∈ L.filter fun v => v != w) x y := by
  constructor
  · intro k
    have key : ∀ y, Rch E (· ∈ L) x y → Rch E (· ∈ L) x y ∧ Rch E (· ∈ L.filter fun v => v != w) x y := by
      refine rch_closed ⟨.base, .base⟩ fun a b ha hE hb => ?_
      have h1 := Rch.step ha.1 hE hb
      refine ⟨h1, .step ha.2 hE (List.mem_filter.2 ⟨hb, ?_⟩)⟩
      rw [bne_iff_ne]
      rintro rfl
      exact h h1
    exact (key y k).2
  · exact rch_mono (fun z hz => (List.mem_filter.1 hz).1) y
theorem partL_avoid {L : List Nat} {w x : Nat} (_hx : x ∈ L) (h : w ∉ partL E L x) (hw : w ∈ L) : partL E (L.filter fun v => v != w) x = partL E L x := by
  have hr : ¬ Rch E (· ∈ L) x w := fun k => h (mem_partL.2 ⟨hw, k⟩)
  have hxw : x ≠ w := by rintro rfl; exact hr .base
  unfold partL
  rw [List.filter_filter]
  refine List.filter_congr fun y _ => ?_
  rw [← dec_congr (rch_avoid hr hxw y)]
  by_cases e : y = w
  · subst e; simp [dec_false hr]
  · simp [e]
/-- w's going parts more. -/
def CutV (E : Nat → Nat → Bool) (L : List Nat) (w : Nat) : Prop := w ∈ L ∧ ∃ ps qs, Parts E L ps ∧ Parts E (L.filter fun v => v != w) qs ∧ ps.length < qs.length
/-- Each way from u to v goes through w. -/
def BetV (E : Nat → Nat → Bool) (L : List Nat) (u v w : Nat) : Prop := w ≠ u ∧ w ≠ v ∧ Rch E (· ∈ L) u v ∧ ¬ Rch E (· ∈ L.filter fun x => x != w) u v
theorem parts_exB (E : Nat → Nat → Bool) : ∀ (n : Nat) (L : List Nat), L.length ≤ n → ∃ ps, Parts E L ps
  | _, [], _ => ⟨[], .done⟩
  | 0, _ :: _, h => by simp at h
  | n + 1, u :: L, h => by
    have h1 := restL_lt (E := E) (List.mem_cons_self (a := u) (l := L))
    obtain ⟨ps, hp⟩ := parts_exB E n (restL E (u :: L) u) (by omega)
    exact ⟨_, .step u L ps hp⟩
theorem between_cut (hs : ∀ r j, E r j = true → E j r = true) {L : List Nat} {u v w : Nat} (hu : u ∈ L) (hv : v ∈ L) (hw : w ∈ L) (h : BetV E L u v w) : CutV E L w := by
  obtain ⟨hwu, hwv, huv, hno⟩ := h
  obtain ⟨ps, hps⟩ := parts_exB E L.length L (Nat.le_refl _)
  obtain ⟨qs, hqs⟩ := parts_exB E _ (L.filter fun v => v != w) (Nat.le_refl _)
  refine ⟨hw, ps, qs, hps, hqs, ?_⟩
  have hu' : u ∈ L.filter fun v => v != w := by simp [hu, Ne.symm hwu]
  have hv' : v ∈ L.filter fun v => v != w := by simp [hv, Ne.symm hwv]
  have huw : Rch E (· ∈ L) u w := Classical.byContradiction fun hn => hno ((rch_avoid hn (Ne.symm hwu) v).1 huv)
  have hwpu : ∀ p ∈ ps, u ∈ p → w ∈ p := fun p hp hup => by
    obtain ⟨e, _⟩ := parts_at hs hps hp hup
    rw [e]; exact mem_partL.2 ⟨hw, huw⟩
  have hwpv : ∀ p ∈ ps, v ∈ p → w ∈ p := fun p hp hvp => by
    obtain ⟨e, _⟩ := parts_at hs hps hp hvp
    rw [e]; exact mem_partL.2 ⟨hw, rch_trans (rch_sym hs hu huv) huw⟩
  have h1 := parts_oneB hs hps w
  have h2 : ((ps.filter fun p => !decide (w ∈ p)) ++ [partL E (L.filter fun v => v != w) u, partL E (L.filter fun v => v != w) v]).length ≤ qs.length := by
    refine nodup_sub _ _ (nodup_snoc2 (List.Pairwise.filter _ (parts_nodup hs hps)) (fun h => ?_) (fun h => ?_) fun e => ?_) fun p hp => ?_
    · obtain ⟨h3, h4⟩ := List.mem_filter.1 h
      have := hwpu _ h3 (self_partL hu')
      simp [this] at h4
    · obtain ⟨h3, h4⟩ := List.mem_filter.1 h
      have := hwpv _ h3 (self_partL hv')
      simp [this] at h4
    · have : v ∈ partL E (L.filter fun v => v != w) u := by rw [e]; exact self_partL hv'
      exact hno (mem_partL.1 this).2
    · rcases List.mem_append.1 hp with hp | hp
      · obtain ⟨h3, h4⟩ := List.mem_filter.1 hp
        obtain ⟨x, hx, rfl⟩ := (parts_mem hs hps p).1 h3
        have hwx : w ∉ partL E L x := by simpa using h4
        have hxw : x ≠ w := by rintro rfl; exact hwx (self_partL hx)
        exact (parts_mem hs hqs _).2 ⟨x, by simp [hx, hxw], (partL_avoid hx hwx hw).symm⟩
      · rcases List.mem_cons.1 hp with rfl | hp
        · exact (parts_mem hs hqs _).2 ⟨u, hu', rfl⟩
        · rw [List.mem_singleton] at hp
          subst hp
          exact (parts_mem hs hqs _).2 ⟨v, hv', rfl⟩
  rw [List.length_append] at h2
  simp only [List.length_cons, List.length_nil] at h2
  omega
/-- What leads from u to v goes through what is between. -/
theorem between_way {L way : List Nat} {u v w : Nat} (hL : ∀ x ∈ way, x ∈ L) (hr : Rch E (· ∈ way) u v) (h : BetV E L u v w) : w ∈ way := by
  refine Classical.byContradiction fun hn => h.2.2.2 (rch_mono (fun x hx => ?_) v hr)
  refine List.mem_filter.2 ⟨hL x hx, ?_⟩
  rw [bne_iff_ne]
  rintro rfl
  exact hn hx

/-! ### Bridges -/
theorem cutE_sub {p q r j : Nat} (h : cutE E p q r j = true) : E r j = true := by
  unfold cutE at h
  simp only [Bool.and_eq_true] at h
  exact h.1
theorem rch_sub {F : Nat → Nat → Bool} (h : ∀ r j, E r j = true → F r j = true) {L : List Nat} {u : Nat} : ∀ x, Rch E (· ∈ L) u x → Rch F (· ∈ L) u x :=
  rch_closed .base fun _ _ ha hE hb => .step ha (h _ _ hE) hb
theorem rch_cut_far {L : List Nat} {a b x : Nat} (hn : ¬ Rch E (· ∈ L) x a) (hm : ¬ Rch E (· ∈ L) x b) (y : Nat) : Rch (cutE E a b) (· ∈ L) x y ↔ Rch E (· ∈ L) x y := by
  refine ⟨fun h => rch_sub (fun _ _ h => cutE_sub h) y h, fun h => ?_⟩
  have key : ∀ y, Rch E (· ∈ L) x y → Rch E (· ∈ L) x y ∧ Rch (cutE E a b) (· ∈ L) x y := by
    refine rch_closed ⟨.base, .base⟩ fun c d hc hE hd => ?_
    refine ⟨.step hc.1 hE hd, .step hc.2 ?_ hd⟩
    have h1 : c ≠ a := by rintro rfl; exact hn hc.1
    have h2 : c ≠ b := by rintro rfl; exact hm hc.1
    simp [cutE, hE, h1, h2]
  exact (key y h).2
theorem bridge_parts (hs : ∀ r j, E r j = true → E j r = true) {L : List Nat} {a b : Nat} (ha : a ∈ L) (hb : b ∈ L) (hE : E a b = true) (hno : ¬ Rch (cutE E a b) (· ∈ L) a b) {ps qs : List (List Nat)} (hps : Parts E L ps) (hqs : Parts (cutE E a b) L qs) : qs.length = ps.length + 1 := by
  have hs' := cutE_sym hs a b
  have hab : Rch E (· ∈ L) a b := .step .base hE hb
  have far : ∀ x ∈ L, a ∉ partL E L x → partL (cutE E a b) L x = partL E L x := fun x hx h => by
    have h1 : ¬ Rch E (· ∈ L) x a := fun k => h (mem_partL.2 ⟨ha, k⟩)
    have h2 : ¬ Rch E (· ∈ L) x b := fun k => h1 (rch_trans k (rch_sym hs ha hab))
    unfold partL
    exact List.filter_congr fun y _ => dec_congr (rch_cut_far h1 h2 y)
  have hpb : ∀ p ∈ ps, b ∈ p → a ∈ p := fun p hp h => by
    obtain ⟨e, _⟩ := parts_at hs hps hp h
    rw [e]; exact mem_partL.2 ⟨ha, rch_sym hs ha hab⟩
  have nd : ((ps.filter fun p => !decide (a ∈ p)) ++ [partL (cutE E a b) L a, partL (cutE E a b) L b]).Nodup := by
    refine nodup_snoc2 (List.Pairwise.filter _ (parts_nodup hs hps)) (fun h => ?_) (fun h => ?_) fun e => ?_
    · have h4 := (List.mem_filter.1 h).2
      simp [self_partL ha] at h4
    · obtain ⟨h3, h4⟩ := List.mem_filter.1 h
      have := hpb _ h3 (self_partL hb)
      simp [this] at h4
    · have : b ∈ partL (cutE E a b) L a := by rw [e]; exact self_partL hb
      exact hno (mem_partL.1 this).2
  have h1 := nodup_sub _ qs nd fun p hp => by
    rcases List.mem_append.1 hp with hp | hp
    · obtain ⟨h3, h4⟩ := List.mem_filter.1 hp
      obtain ⟨x, hx, rfl⟩ := (parts_mem hs hps p).1 h3
      exact (parts_mem hs' hqs _).2 ⟨x, hx, (far x hx (by simpa using h4)).symm⟩
    · rcases List.mem_cons.1 hp with rfl | hp
      · exact (parts_mem hs' hqs _).2 ⟨a, ha, rfl⟩
      · rw [List.mem_singleton] at hp
        subst hp
        exact (parts_mem hs' hqs _).2 ⟨b, hb, rfl⟩
  have h2 := nodup_sub qs _ (parts_nodup hs' hqs) fun q hq => by
    obtain ⟨x, hx, rfl⟩ := (parts_mem hs' hqs q).1 hq
    show partL (cutE E a b) L x ∈ (ps.filter fun p => !decide (a ∈ p)) ++ [partL (cutE E a b) L a, partL (cutE E a b) L b]
    by_cases h3 : a ∈ partL E L x
    · have h4 : Rch E (· ∈ L) a x := rch_sym hs hx (mem_partL.1 h3).2
      have h5 : Rch (cutE E a b) (· ∈ L) a x ∨ Rch (cutE E a b) (· ∈ L) b x := by
        refine rch_closed (T := fun x => Rch (cutE E a b) (· ∈ L) a x ∨ Rch (cutE E a b) (· ∈ L) b x) (.inl .base) (fun c d hc hE hd => ?_) x h4
        by_cases e1 : c = a ∧ d = b
        · rw [e1.2]; exact .inr .base
        · by_cases e2 : c = b ∧ d = a
          · rw [e2.2]; exact .inl .base
          · have : cutE E a b c d = true := by
              unfold cutE
              rw [hE]
              simp only [Bool.true_and]
              simp
              exact ⟨Classical.not_and_iff_not_or_not.1 e1, Classical.not_and_iff_not_or_not.1 e2⟩
            exact hc.imp (fun h => .step h this hd) fun h => .step h this hd
      rcases h5 with h5 | h5
      · rw [← partL_eq hs' ha h5]; simp
      · rw [← partL_eq hs' hb h5]; simp
    · rw [far x hx h3]
      exact List.mem_append_left _ (List.mem_filter.2 ⟨(parts_mem hs hps _).2 ⟨x, hx, rfl⟩, by simpa using h3⟩)
  have h3 := parts_oneB hs hps a
  have h4 := parts_twoB hs hps ha
  rw [List.length_append] at h1 h2
  simp only [List.length_cons, List.length_nil] at h1 h2
  omega
end

/-! ### All bridges -/
theorem edRow_nodup (n : Nat) (E : Nat → Nat → Bool) (u : Nat) : (edRow n E u).Nodup := by
  unfold edRow
  refine List.Pairwise.map _ (fun a b h e => h ?_) (List.Pairwise.filter _ List.nodup_range)
  simpa using e
theorem edN_nodup {n : Nat} (E : Nat → Nat → Bool) : ∀ k, k ≤ n → (edN n E k).Nodup
  | 0, _ => by simp [edN]
  | k + 1, hk => by
    rw [edN_succ, List.nodup_append]
    refine ⟨edN_nodup E k (by omega), edRow_nodup n E k, fun a ha b hb e => ?_⟩
    subst e
    have h1 : a.1 < k := by
      simp only [edN, edRow, List.mem_flatMap, List.mem_range, List.mem_map] at ha
      obtain ⟨u, hu, v, _, rfl⟩ := ha
      exact hu
    have h2 : a.1 = k := by
      simp only [edRow, List.mem_map] at hb
      obtain ⟨v, _, rfl⟩ := hb
      rfl
    omega
theorem cutAll_le {l : List (Nat × Nat)} : ∀ {E : Nat → Nat → Bool} {r j : Nat}, cutAll E l r j = true → E r j = true := by
  induction l with
  | nil => intro E r j h; exact h
  | cons e l ih =>
    intro E r j h
    exact cutE_sub (ih (E := cutE E e.1 e.2) h)
theorem cutAll_keep {l : List (Nat × Nat)} : ∀ {E : Nat → Nat → Bool} {r j : Nat}, E r j = true → (r, j) ∉ l → (j, r) ∉ l → cutAll E l r j = true := by
  induction l with
  | nil => intro E r j h _ _; exact h
  | cons e l ih =>
    intro E r j h h1 h2
    simp only [List.mem_cons, not_or] at h1 h2
    refine ih (E := cutE E e.1 e.2) ?_ h1.2 h2.2
    unfold cutE
    rw [h]
    simp only [Bool.true_and, Bool.not_eq_true', Bool.or_eq_false_iff, Bool.and_eq_false_iff, beq_eq_false_iff_ne]
    constructor
    · refine Classical.not_and_iff_not_or_not.1 fun k => h1.1 ?_
      rw [k.1, k.2]
    · refine Classical.not_and_iff_not_or_not.1 fun k => h2.1 ?_
      rw [k.1, k.2]
theorem bridges_parts {n : Nat} {E : Nat → Nat → Bool} (hs : ∀ r j, E r j = true → E j r = true) {l : List (Nat × Nat)} (hn : l.Nodup) (hl : ∀ e ∈ l, e.1 < e.2 ∧ e.2 < n ∧ E e.1 e.2 = true ∧ Brd n E e) {ps : List (List Nat)} (hps : Parts E (List.range n) ps) :
    ∀ k, k ≤ l.length → ∀ qs, Parts (cutAll E (l.take k)) (List.range n) qs → qs.length = ps.length + k
  | 0, _, qs, hq => by rw [parts_det hps hq]; rfl
  | k + 1, hk, qs, hq => by
    have hlt : k < l.length := by omega
    obtain ⟨rs, hr⟩ := parts_exB (cutAll E (l.take k)) _ (List.range n) (Nat.le_refl _)
    have h1 := bridges_parts hs hn hl hps k (by omega) rs hr
    have hT : l.take (k + 1) = l.take k ++ [l[k]] := List.take_succ_eq_append_getElem hlt
    rw [hT, cutAll_snoc] at hq
    obtain ⟨h2, h3, h4, h5⟩ := hl _ (List.getElem_mem hlt)
    have hnm : l[k] ∉ l.take k := fun h => by
      obtain ⟨i, hi, e⟩ := List.getElem_of_mem h
      rw [List.length_take] at hi
      rw [List.getElem_take] at e
      have := (List.pairwise_iff_getElem.1 hn) i k (by omega) hlt (by omega)
      exact this e
    have h6 : cutAll E (l.take k) l[k].1 l[k].2 = true := cutAll_keep h4 hnm fun h => by
      have := (hl _ (List.mem_of_mem_take h)).1
      simp only at this
      omega
    have h7 := bridge_parts (cutAll_sym hs _) (List.mem_range.2 (show l[k].1 < n by omega)) (List.mem_range.2 h3) h6 (fun h => h5 (rch_sub (fun r j h => by
      have h8 := cutAll_le (cutE_sub h)
      unfold cutE at h ⊢
      rw [Bool.and_eq_true] at h
      rw [h8, h.2]; rfl) _ h)) hr hq
    omega
/-- A bridge's ends are in two parts without the bridges. -/
theorem bridge_apart {n : Nat} {E : Nat → Nat → Bool} (hs : ∀ r j, E r j = true → E j r = true) {l : List (Nat × Nat)} {e : Nat × Nat} (he : e ∈ l) (hb : Brd n E e) {qs : List (List Nat)} (hq : Parts (cutAll E l) (List.range n) qs) {p : List Nat} (hp : p ∈ qs) (h1 : e.1 ∈ p) (h2 : e.2 ∈ p) : False := by
  obtain ⟨rfl, _⟩ := parts_at (cutAll_sym hs _) hq hp h1
  have h3 := (mem_partL.1 h2).2
  refine hb (rch_sub (fun r j h => ?_) _ h3)
  have key : ∀ (l : List (Nat × Nat)) (E : Nat → Nat → Bool), e ∈ l → cutAll E l r j = true → cutE E e.1 e.2 r j = true := by
    intro l
    induction l with
    | nil => intro E h; cases h
    | cons f l ih =>
      intro E hm h
      rcases List.mem_cons.1 hm with rfl | hm
      · exact cutAll_le (E := cutE E e.1 e.2) h
      · have := ih (cutE E f.1 f.2) hm h
        unfold cutE at this ⊢
        simp only [Bool.and_eq_true] at this ⊢
        exact ⟨this.1.1, this.2⟩
  exact key l E he h

end Go.Proofs.YtiooindlpinjhaaDoor
