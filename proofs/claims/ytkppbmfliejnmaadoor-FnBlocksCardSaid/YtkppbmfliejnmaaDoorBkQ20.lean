/- Plain: the blocks of a connected set: parted at cut vertices again and again. -/
import Derived.Test.YtkppbmfliejnmaaDoorBkQ19
namespace Go.Proofs.YtkppbmfliejnmaaDoor

section
variable {E : Nat → Nat → Bool}
/-- Some two that are reached from each other are so through w alone. -/
def CutB (E : Nat → Nat → Bool) (L : List Nat) (w : Nat) : Prop := w ∈ L ∧ ∃ a ∈ L, ∃ b ∈ L, BetV E L a b w
theorem headD_mem {l : List Nat} (h : l ≠ []) : l.headD 0 ∈ l := by
  cases l with
  | nil => exact absurd rfl h
  | cons x l => simp
theorem cut_bet (hs : ∀ r j, E r j = true → E j r = true) {L : List Nat} {w : Nat} : CutV E L w ↔ CutB E L w := by
  constructor
  · rintro ⟨hw, ps, qs, hp, hq, hlt⟩
    refine ⟨hw, Classical.byContradiction fun hno => ?_⟩
    have hfil : ∀ x, x ∈ (L.filter fun v => v != w) ↔ x ∈ L ∧ x ≠ w := fun x => by simp [List.mem_filter]
    have hq0 : ∀ q ∈ qs, q.headD 0 ∈ q := fun q h => by
      obtain ⟨x, hx, rfl⟩ := (parts_mem hs hq q).1 h
      exact headD_mem fun e => by have := self_partL (E := E) hx; rw [e] at this; cases this
    have hqa : ∀ q ∈ qs, q = partL E (L.filter fun v => v != w) (q.headD 0) ∧ q.headD 0 ∈ L ∧ q.headD 0 ≠ w := fun q h => by
      obtain ⟨h1, h2⟩ := parts_at hs hq h (hq0 q h)
      exact ⟨h1, (hfil _).1 h2⟩
    have h1 : (qs.map fun q => partL E L (q.headD 0)).length ≤ ps.length := by
      refine nodup_sub _ _ ?_ fun p hp' => ?_
      · unfold List.Nodup
        rw [List.pairwise_map]
        refine (parts_nodup hs hq).imp_of_mem fun {q r} hqm hrm hne he => hne ?_
        obtain ⟨e1, a1, a2⟩ := hqa q hqm
        obtain ⟨e2, b1, b2⟩ := hqa r hrm
        have hr : Rch E (· ∈ L) (q.headD 0) (r.headD 0) := by
          have : r.headD 0 ∈ partL E L (q.headD 0) := by rw [he]; exact self_partL b1
          exact (mem_partL.1 this).2
        have hr2 : Rch E (· ∈ L.filter fun v => v != w) (q.headD 0) (r.headD 0) := Classical.byContradiction fun k => hno ⟨_, a1, _, b1, a2.symm, b2.symm, hr, k⟩
        rw [e1, e2]
        exact partL_eq hs ((hfil _).2 ⟨a1, a2⟩) hr2
      · obtain ⟨q, hqm, rfl⟩ := List.mem_map.1 hp'
        exact (parts_mem hs hp _).2 ⟨_, (hqa q hqm).2.1, rfl⟩
    rw [List.length_map] at h1
    omega
  · rintro ⟨hw, a, ha, b, hb, h⟩
    exact between_cut hs ha hb hw h
/-- In a part the same vertices cut. -/
theorem cut_part (hs : ∀ r j, E r j = true → E j r = true) {L p : List Nat} {w : Nat} (hpL : ∀ x ∈ p, x ∈ L) (hp : ∀ z y, z ∈ p → y ∈ L → E z y = true → y ∈ p) (hw : w ∈ p) : CutB E p w ↔ CutB E L w := by
  have stay : ∀ (S : Nat → Prop) (a : Nat), (∀ x, S x → x ∈ L) → a ∈ p → ∀ y, Rch E S a y → y ∈ p ∧ Rch E (fun z => S z ∧ z ∈ p) a y := fun S a hS ha => by
    refine rch_closed ⟨ha, .base⟩ fun z y hz hE hy => ?_
    have := hp z y hz.1 (hS y hy) hE
    exact ⟨this, .step hz.2 hE ⟨hy, this⟩⟩
  have hfil : ∀ (M : List Nat) x, x ∈ (M.filter fun v => v != w) ↔ x ∈ M ∧ x ≠ w := fun M x => by simp [List.mem_filter]
  constructor
  · rintro ⟨_, a, ha, b, hb, h1, h2, h3, h4⟩
    refine ⟨hpL _ hw, a, hpL _ ha, b, hpL _ hb, h1, h2, rch_mono hpL _ h3, fun k => h4 ?_⟩
    exact rch_mono (fun z hz => (hfil p z).2 ⟨hz.2, ((hfil L z).1 hz.1).2⟩) _ (stay (· ∈ L.filter fun v => v != w) a (fun x hx => ((hfil L x).1 hx).1) ha b k).2
  · rintro ⟨_, a, ha, b, hb, h1, h2, h3, h4⟩
    have hap : a ∈ p := Classical.byContradiction fun k => h4 (by
      have key : ∀ y, Rch E (· ∈ L) a y → y ∉ p ∧ y ∈ L ∧ Rch E (· ∈ L.filter fun v => v != w) a y := by
        refine rch_closed ⟨k, ha, .base⟩ fun z y hz hE hy => ?_
        have hyp : y ∉ p := fun hy2 => hz.1 (hp y z hy2 hz.2.1 (hs _ _ hE))
        exact ⟨hyp, hy, .step hz.2.2 hE ((hfil L y).2 ⟨hy, fun e => hyp (e ▸ hw)⟩)⟩
      exact (key b h3).2.2)
    obtain ⟨hbp, hr⟩ := stay (· ∈ L) a (fun _ h => h) hap b h3
    exact ⟨hw, a, hap, b, hbp, h1, h2, rch_mono (fun z hz => hz.2) _ hr, fun k => h4 (rch_mono (fun z hz => (hfil L z).2 ⟨hpL _ ((hfil p z).1 hz).1, ((hfil p z).1 hz).2⟩) _ k)⟩

/-- Any two are reached from each other. -/
def ConnA (E : Nat → Nat → Bool) (L : List Nat) : Prop := L ≠ [] ∧ ∀ a ∈ L, ∀ b ∈ L, Rch E (· ∈ L) a b
theorem connA_iff (hs : ∀ r j, E r j = true → E j r = true) {L : List Nat} : ConnA E L ↔ ConnL E L := by
  constructor
  · rintro ⟨h1, h2⟩
    exact ⟨h1, fun x hx => h2 _ (headD_mem h1) x hx⟩
  · rintro ⟨h1, h2⟩
    exact ⟨h1, fun a ha b hb => rch_trans (rch_sym hs (headD_mem h1) (h2 a ha)) (h2 b hb)⟩

/-! ### One cut -/
/-- A part of what is left, and the vertex cut. -/
def insV (L : List Nat) (v : Nat) (p : List Nat) : List Nat := L.filter fun x => x == v || decide (x ∈ p)
theorem mem_insV {L : List Nat} {v : Nat} {p : List Nat} {x : Nat} : x ∈ insV L v p ↔ x ∈ L ∧ (x = v ∨ x ∈ p) := by simp [insV]
/-- What is left of L at v is parted so: nothing leads out of p but through v. -/
structure OneC (E : Nat → Nat → Bool) (L : List Nat) (v : Nat) (p : List Nat) : Prop where
  vin : v ∈ L
  pin : ∀ x ∈ p, x ∈ L ∧ x ≠ v
  shut : ∀ z y, z ∈ p → y ∈ L → y ≠ v → E z y = true → y ∈ p
theorem OneC.stay (hs : ∀ r j, E r j = true → E j r = true) {L : List Nat} {v : Nat} {p : List Nat} (h : OneC E L v p) {S : Nat → Prop} (hS : ∀ x, S x → x ∈ L) {a : Nat} (haS : S a) (ha : a ∈ insV L v p) : ∀ y, Rch E S a y → y ∈ insV L v p → Rch E (fun z => S z ∧ z ∈ insV L v p) a y := by
  have key : ∀ y, Rch E S a y → S y ∧ (y ∈ insV L v p → Rch E (fun z => S z ∧ z ∈ insV L v p) a y) ∧ (y ∉ insV L v p → Rch E (fun z => S z ∧ z ∈ insV L v p) a v) := by
    refine rch_closed ⟨haS, fun _ => .base, fun k => absurd ha k⟩ fun z y hz hE hy => ⟨hy, fun hyi => ?_, fun hyn => ?_⟩
    · by_cases hzi : z ∈ insV L v p
      · exact .step (hz.2.1 hzi) hE ⟨hy, hyi⟩
      · have h1 := hz.2.2 hzi
        rcases (mem_insV.1 hyi).2 with rfl | hyp
        · exact h1
        · have hzL := hS z hz.1
          have hzv : z ≠ v := fun e => hzi (mem_insV.2 ⟨hzL, .inl e⟩)
          exact absurd (mem_insV.2 ⟨hzL, .inr (h.shut y z hyp hzL hzv (hs _ _ hE))⟩) hzi
    · by_cases hzi : z ∈ insV L v p
      · have h1 := hz.2.1 hzi
        rcases (mem_insV.1 hzi).2 with rfl | hzp
        · exact h1
        · have hyL := hS y hy
          have hyv : y ≠ v := fun e => hyn (mem_insV.2 ⟨hyL, .inl e⟩)
          exact absurd (mem_insV.2 ⟨hyL, .inr (h.shut z y hzp hyL hyv hE)⟩) hyn
      · exact hz.2.2 hzi
  exact fun y hy hi => (key y hy).2.1 hi
theorem OneC.conn (hs : ∀ r j, E r j = true → E j r = true) {L : List Nat} {v : Nat} {p : List Nat} (h : OneC E L v p) (hc : ConnA E L) : ConnA E (insV L v p) := by
  have hv : v ∈ insV L v p := mem_insV.2 ⟨h.vin, .inl rfl⟩
  refine ⟨fun e => (by rw [e] at hv; cases hv), fun a ha b hb => ?_⟩
  exact rch_mono (fun z hz => hz.2) _ (h.stay hs (S := (· ∈ L)) (fun _ k => k) (mem_insV.1 ha).1 ha b (hc.2 a (mem_insV.1 ha).1 b (mem_insV.1 hb).1) hb)
theorem OneC.cut (hs : ∀ r j, E r j = true → E j r = true) {L : List Nat} {v : Nat} {p : List Nat} (h : OneC E L v p) (hc : ConnA E L) (hall : ∀ y ∈ L, y ≠ v → y ∉ p → ∃ q, OneC E L v q ∧ y ∈ q ∧ ∀ x ∈ q, x ∉ p) {x : Nat} (hx : x ∈ p) : CutB E L x ↔ CutB E (insV L v p) x := by
  have hfil : ∀ (M : List Nat) z, z ∈ (M.filter fun v => v != x) ↔ z ∈ M ∧ z ≠ x := fun M z => by simp [List.mem_filter]
  obtain ⟨hxL, hxv⟩ := h.pin x hx
  have hxi : x ∈ insV L v p := mem_insV.2 ⟨hxL, .inr hx⟩
  have hvi : v ∈ insV L v p := mem_insV.2 ⟨h.vin, .inl rfl⟩
  have hcp := h.conn hs hc
  constructor
  · rintro ⟨_, a, ha, b, hb, h1, h2, h3, h4⟩
    refine ⟨hxi, Classical.byContradiction fun hno => h4 ?_⟩
    have tov : ∀ y ∈ L, y ≠ x → Rch E (· ∈ L.filter fun v => v != x) y v := fun y hy hyx => by
      by_cases hyi : y ∈ insV L v p
      · have hr : Rch E (· ∈ (insV L v p).filter fun v => v != x) y v := Classical.byContradiction fun k => hno ⟨y, hyi, v, hvi, hyx.symm, hxv, hcp.2 y hyi v hvi, k⟩
        exact rch_mono (fun z hz => (hfil L z).2 ⟨(mem_insV.1 ((hfil _ z).1 hz).1).1, ((hfil _ z).1 hz).2⟩) _ hr
      · obtain ⟨q, hq, hyq, hqp⟩ := hall y hy (fun e => hyi (mem_insV.2 ⟨hy, .inl e⟩)) (fun k => hyi (mem_insV.2 ⟨hy, .inr k⟩))
        have hr := (hq.conn hs hc).2 y (mem_insV.2 ⟨hy, .inr hyq⟩) v (mem_insV.2 ⟨hq.vin, .inl rfl⟩)
        refine rch_mono (fun z hz => (hfil L z).2 ⟨(mem_insV.1 hz).1, fun e => ?_⟩) _ hr
        rcases (mem_insV.1 hz).2 with k | k
        · exact hxv (e ▸ k)
        · exact hqp z k (e ▸ hx)
    exact rch_trans (tov a ha h1.symm) (rch_sym hs ((hfil L b).2 ⟨hb, h2.symm⟩) (tov b hb h2.symm))
  · rintro ⟨_, a, ha, b, hb, h1, h2, h3, h4⟩
    have haL := (mem_insV.1 ha).1
    refine ⟨hxL, a, haL, b, (mem_insV.1 hb).1, h1, h2, rch_mono (fun z hz => (mem_insV.1 hz).1) _ h3, fun k => h4 ?_⟩
    have := h.stay hs (S := (· ∈ L.filter fun v => v != x)) (fun z hz => ((hfil L z).1 hz).1) ((hfil L a).2 ⟨haL, h1.symm⟩) ha b k hb
    exact rch_mono (fun z hz => (hfil _ z).2 ⟨hz.2, ((hfil L z).1 hz.1).2⟩) _ this
end

/-! ### Counting in lists of lists -/
theorem len_filter_flat {α β : Type} (f : α → List β) (P : β → Bool) : ∀ l : List α, ((l.flatMap f).filter P).length = (l.map fun a => ((f a).filter P).length).sum
  | [] => rfl
  | a :: l => by
    rw [List.flatMap_cons, List.filter_append, List.length_append, List.map_cons, List.sum_cons, len_filter_flat f P l]
theorem sum_zeroB {α : Type} (g : α → Nat) : ∀ l : List α, (∀ b ∈ l, g b = 0) → (l.map g).sum = 0
  | [], _ => rfl
  | a :: l, h => by
    rw [List.map_cons, List.sum_cons, h a (by simp), sum_zeroB g l fun b hb => h b (List.mem_cons_of_mem _ hb)]
theorem sum_onlyB {α : Type} (g : α → Nat) : ∀ (l : List α), l.Nodup → ∀ a ∈ l, (∀ b ∈ l, b ≠ a → g b = 0) → (l.map g).sum = g a
  | [], _, a, ha, _ => by cases ha
  | x :: l, hn, a, ha, h => by
    obtain ⟨h1, h2⟩ := List.nodup_cons.1 hn
    rw [List.map_cons, List.sum_cons]
    rcases List.mem_cons.1 ha with e | ha
    · subst e
      rw [sum_zeroB g l fun b hb => h b (List.mem_cons_of_mem _ hb) fun e => h1 (e ▸ hb)]
      rfl
    · have hx : x ≠ a := fun e => h1 (e ▸ ha)
      rw [h x (by simp) hx, sum_onlyB g l h2 a ha fun b hb => h b (List.mem_cons_of_mem _ hb)]
      omega
theorem sum_leB {α : Type} (g : α → Nat) (c : Nat) : ∀ (l : List α), (∀ b ∈ l, c ≤ g b) → l.length * c ≤ (l.map g).sum
  | [], _ => by simp
  | x :: l, h => by
    rw [List.map_cons, List.sum_cons, List.length_cons, Nat.succ_mul]
    have := h x (by simp)
    have := sum_leB g c l fun b hb => h b (List.mem_cons_of_mem _ hb)
    omega
theorem sum_geB {α : Type} (g f : α → Nat) : ∀ (l : List α), (∀ b ∈ l, g b ≤ f b) → (l.map g).sum ≤ (l.map f).sum
  | [], _ => by simp
  | x :: l, h => by
    rw [List.map_cons, List.sum_cons, List.map_cons, List.sum_cons]
    have := h x (by simp)
    have := sum_geB g f l fun b hb => h b (List.mem_cons_of_mem _ hb)
    omega

end Go.Proofs.YtkppbmfliejnmaaDoor
