/- Plain: what the program's blocks are. -/
import Derived.Test.YtkppbmfliejnmaaDoorBkQ20
namespace Go.Proofs.YtkppbmfliejnmaaDoor

noncomputable def cutsL (E : Nat → Nat → Bool) (L : List Nat) : List Nat := L.filter fun w => dec (CutV E L w)
theorem mem_cutsL {E : Nat → Nat → Bool} {L : List Nat} {w : Nat} : w ∈ cutsL E L ↔ CutV E L w := by
  unfold cutsL
  rw [List.mem_filter, dec_iff]
  exact ⟨fun h => h.2, fun h => ⟨h.1, h⟩⟩
noncomputable def ptsOf (E : Nat → Nat → Bool) (L : List Nat) : List (List Nat) := Classical.choose (parts_exB E L.length L (Nat.le_refl _))
theorem ptsOf_ok (E : Nat → Nat → Bool) (L : List Nat) : Parts E L (ptsOf E L) := Classical.choose_spec (parts_exB E L.length L (Nat.le_refl _))
/-- The blocks of a connected set. -/
noncomputable def blkF (E : Nat → Nat → Bool) : Nat → List Nat → List (List Nat)
  | 0, _ => []
  | k + 1, L => match cutsL E L with
    | [] => [L]
    | v :: _ => (ptsOf E (L.filter fun x => x != v)).flatMap fun p => blkF E k (insV L v p)
theorem blkF_none {E : Nat → Nat → Bool} {k : Nat} {L : List Nat} (h : cutsL E L = []) : blkF E (k + 1) L = [L] := by simp [blkF, h]
theorem blkF_cut {E : Nat → Nat → Bool} {k : Nat} {L : List Nat} {v : Nat} {r : List Nat} (h : cutsL E L = v :: r) : blkF E (k + 1) L = (ptsOf E (L.filter fun x => x != v)).flatMap fun p => blkF E k (insV L v p) := by simp [blkF, h]

def has1 (x : Nat) (b : List Nat) : Bool := decide (x ∈ b)
def has2 (x y : Nat) (b : List Nat) : Bool := decide (x ∈ b) && decide (y ∈ b)
/-- Blocks of a set. -/
structure BlkP (E : Nat → Nat → Bool) (L : List Nat) (B : List (List Nat)) : Prop where
  sub : ∀ b ∈ B, ∀ x ∈ b, x ∈ L
  ris : ∀ b ∈ B, b.Pairwise (· < ·)
  conn : ∀ b ∈ B, ConnA E b
  all : ∀ x ∈ L, 1 ≤ (B.filter (has1 x)).length
  edge : ∀ x ∈ L, ∀ y ∈ L, E x y = true → (B.filter (has2 x y)).length = 1
  cut : ∀ x ∈ L, CutB E L x ↔ 2 ≤ (B.filter (has1 x)).length
  pair : B.Pairwise fun b c => ∀ x y, x ∈ b → x ∈ c → y ∈ b → y ∈ c → x = y
  len : B.length + 1 ≤ L.length ∨ (B.length = 1 ∧ L.length = 1)
section
variable {E : Nat → Nat → Bool}
theorem filter_noneB {α : Type} {P : α → Bool} {l : List α} (h : ∀ b ∈ l, P b = false) : (l.filter P).length = 0 := by
  rw [List.filter_eq_nil_iff.2 fun b hb => by rw [h b hb]; simp]
  rfl
/-- All parts of what is left are parted so. -/
theorem oneC_of (hs : ∀ r j, E r j = true → E j r = true) {L : List Nat} {v : Nat} (hv : v ∈ L) {ps : List (List Nat)} (hp : Parts E (L.filter fun x => x != v) ps) {p : List Nat} (h : p ∈ ps) : OneC E L v p := by
  have hfil : ∀ z, z ∈ (L.filter fun x => x != v) ↔ z ∈ L ∧ z ≠ v := fun z => by simp [List.mem_filter]
  refine ⟨hv, fun x hx => (hfil x).1 (parts_in hp p h x hx), fun z y hz hy hyv hE => ?_⟩
  obtain ⟨e, hzL⟩ := parts_at hs hp h hz
  rw [e]
  exact mem_partL.2 ⟨(hfil y).2 ⟨hy, hyv⟩, .step .base hE ((hfil y).2 ⟨hy, hyv⟩)⟩
theorem parts_len_pos {L : List Nat} {ps : List (List Nat)} (h : Parts E L ps) (hL : L ≠ []) : 1 ≤ ps.length := by
  cases h with
  | done => exact absurd rfl hL
  | step => simp
theorem parts_nil {L : List Nat} {ps : List (List Nat)} (h : Parts E L ps) : ∀ p ∈ ps, p ≠ [] := fun p hp => (parts_conn h p hp).1
theorem insV_len {L : List Nat} {v : Nat} {p : List Nat} (hn : L.Nodup) (hv : v ∈ L) (hp : p.Nodup) (hpin : ∀ x ∈ p, x ∈ L ∧ x ≠ v) : (insV L v p).length = p.length + 1 := by
  refine Nat.le_antisymm ?_ ?_
  · have := nodup_sub (insV L v p) (v :: p) (hn.sublist List.filter_sublist) fun x hx => by
      rcases (mem_insV.1 hx).2 with rfl | h
      · exact List.mem_cons_self
      · exact List.mem_cons_of_mem _ h
    simpa using this
  · have := nodup_sub (v :: p) (insV L v p) (List.nodup_cons.2 ⟨fun h => (hpin v h).2 rfl, hp⟩) fun x hx => by
      rcases List.mem_cons.1 hx with rfl | h
      · exact mem_insV.2 ⟨hv, .inl rfl⟩
      · exact mem_insV.2 ⟨(hpin x h).1, .inr h⟩
    simpa using this
theorem two_parts {L : List Nat} {v : Nat} {qs : List (List Nat)} (hL : L ≠ []) (h : CutV E L v) (hq : Parts E (L.filter fun x => x != v) qs) : 2 ≤ qs.length := by
  obtain ⟨_, ps, qs', hp, hq', hlt⟩ := h
  rw [parts_det hq hq']
  have := parts_len_pos hp hL
  omega
theorem sum_memB {α : Type} (g : α → Nat) : ∀ (l : List α), ∀ a ∈ l, g a ≤ (l.map g).sum
  | [], a, h => by cases h
  | x :: l, a, h => by
    rw [List.map_cons, List.sum_cons]
    rcases List.mem_cons.1 h with rfl | h
    · omega
    · have := sum_memB g l a h
      omega
theorem sum_twoB {α : Type} (g : α → Nat) : ∀ (l : List α), l.Nodup → ∀ a ∈ l, ∀ b ∈ l, a ≠ b → g a + g b ≤ (l.map g).sum
  | [], _, a, h, _, _, _ => by cases h
  | x :: l, hn, a, ha, b, hb, hab => by
    obtain ⟨h1, h2⟩ := List.nodup_cons.1 hn
    rw [List.map_cons, List.sum_cons]
    rcases List.mem_cons.1 ha with e1 | k1
    · rcases List.mem_cons.1 hb with e2 | k2
      · exact absurd (e1.trans e2.symm) hab
      · have := sum_memB g l b k2
        rw [e1]; omega
    · rcases List.mem_cons.1 hb with e2 | k2
      · have := sum_memB g l a k1
        rw [e2]; omega
      · have := sum_twoB g l h2 a k1 b k2 hab
        omega
theorem blk_ok (hs : ∀ r j, E r j = true → E j r = true) (hirr : ∀ r, E r r = false) : ∀ (k : Nat) (L : List Nat), L.length ≤ k → L.Pairwise (· < ·) → ConnA E L → BlkP E L (blkF E k L)
  | 0, L, h, _, hc => absurd (List.eq_nil_of_length_eq_zero (Nat.le_zero.1 h)) hc.1
  | k + 1, L, h, hr, hc => by
    have hLp : 1 ≤ L.length := List.length_pos_iff.2 hc.1
    cases hcut : cutsL E L with
    | nil =>
      rw [blkF_none hcut]
      have hno : ∀ x, ¬ CutB E L x := fun x hx => by
        have := mem_cutsL.2 ((cut_bet hs).2 hx)
        rw [hcut] at this
        cases this
      refine ⟨fun b hb x hx => ?_, fun b hb => ?_, fun b hb => ?_, fun x hx => ?_, fun x hx y hy _ => ?_, fun x hx => ?_, List.pairwise_singleton _ _, ?_⟩
      · rw [List.mem_singleton] at hb; exact hb ▸ hx
      · rw [List.mem_singleton] at hb; exact hb ▸ hr
      · rw [List.mem_singleton] at hb; exact hb ▸ hc
      · simp [has1, hx]
      · simp [has2, hx, hy]
      · simp [has1, hx, hno x]
      · by_cases e : L.length = 1
        · exact .inr ⟨rfl, e⟩
        · left; simp; omega
    | cons v r =>
      rw [blkF_cut hcut]
      have hvc : CutV E L v := mem_cutsL.1 (by rw [hcut]; exact List.mem_cons_self)
      have hvL := hvc.1
      have hp := ptsOf_ok E (L.filter fun x => x != v)
      obtain ⟨ps, hps⟩ : ∃ ps, ps = ptsOf E (L.filter fun x => x != v) := ⟨_, rfl⟩
      rw [← hps] at hp ⊢
      have hfil : ∀ z, z ∈ (L.filter fun x => x != v) ↔ z ∈ L ∧ z ≠ v := fun z => by simp [List.mem_filter]
      have hn := parts_nodup hs hp
      have h2 := two_parts hc.1 hvc hp
      have hone : ∀ p ∈ ps, OneC E L v p := fun p hpm => oneC_of hs hvL hp hpm
      have hapart : ∀ p ∈ ps, ∀ q ∈ ps, ∀ x, x ∈ p → x ∈ q → p = q := fun p hpm q hqm x hx hy => by
        rw [(parts_at hs hp hpm hx).1, (parts_at hs hp hqm hy).1]
      have hcov : ∀ x ∈ L, x ≠ v → ∃ p ∈ ps, x ∈ p := fun x hx hxv => ⟨_, (parts_mem hs hp _).2 ⟨x, (hfil x).2 ⟨hx, hxv⟩, rfl⟩, self_partL ((hfil x).2 ⟨hx, hxv⟩)⟩
      have hris : ∀ p ∈ ps, p.Pairwise (· < ·) := parts_ris hp (List.Pairwise.filter _ hr)
      have hnd : ∀ {l : List Nat}, l.Pairwise (· < ·) → l.Nodup := fun h => h.imp fun h => Nat.ne_of_lt h
      have hlen : ∀ p ∈ ps, (insV L v p).length = p.length + 1 := fun p hpm => insV_len (hnd hr) hvL (hnd (hris p hpm)) (hone p hpm).pin
      have htot := parts_total hp
      have hLf : (L.filter fun x => x != v).length + 1 = L.length := by
        have h1 := filter_not_len (fun x : Nat => x == v) L
        have h3 : (L.filter fun x => x == v).length = 1 := by
          refine Nat.le_antisymm ?_ (List.length_pos_of_mem (a := v) (List.mem_filter.2 ⟨hvL, by simp⟩))
          have := nodup_sub (L.filter fun x => x == v) [v] ((hnd hr).sublist List.filter_sublist) fun x hx => by
            have := (List.mem_filter.1 hx).2
            simpa using this
          simpa using this
        have h4 : (L.filter fun x => !(x == v)) = L.filter fun x => x != v := rfl
        rw [h4] at h1
        omega
      have hpl : ∀ p ∈ ps, p.length + 2 ≤ L.length := fun p hpm => by
        obtain ⟨q, hqm, hne⟩ : ∃ q ∈ ps, q ≠ p := Classical.byContradiction fun k => by
          have : ps.length ≤ 1 := by
            have := nodup_sub ps [p] hn fun q hq => List.mem_singleton.2 (Classical.byContradiction fun e => k ⟨q, hq, e⟩)
            simpa using this
          omega
        have h5 := sum_twoB List.length ps hn p hpm q hqm (Ne.symm hne)
        have h6 : 1 ≤ q.length := List.length_pos_iff.2 (parts_nil hp q hqm)
        omega
      have hB : ∀ p ∈ ps, BlkP E (insV L v p) (blkF E k (insV L v p)) := fun p hpm => blk_ok hs hirr k _ (by rw [hlen p hpm]; have := hpl p hpm; omega) (List.Pairwise.filter _ hr) ((hone p hpm).conn hs hc)
      have hvi : ∀ p, v ∈ insV L v p := fun p => mem_insV.2 ⟨hvL, .inl rfl⟩
      have hzero : ∀ x p, p ∈ ps → x ∉ insV L v p → ((blkF E k (insV L v p)).filter (has1 x)).length = 0 := fun x p hpm hx => filter_noneB fun b hb => by
        unfold has1
        rw [decide_eq_false_iff_not]
        exact fun hxb => hx ((hB p hpm).sub b hb x hxb)
      refine ⟨fun b hb x hx => ?_, fun b hb => ?_, fun b hb => ?_, fun x hx => ?_, fun x hx y hy hE => ?_, fun x hx => ?_, ?_, .inl ?_⟩
      · obtain ⟨p, hpm, hb⟩ := List.mem_flatMap.1 hb
        exact (mem_insV.1 ((hB p hpm).sub b hb x hx)).1
      · obtain ⟨p, hpm, hb⟩ := List.mem_flatMap.1 hb
        exact (hB p hpm).ris b hb
      · obtain ⟨p, hpm, hb⟩ := List.mem_flatMap.1 hb
        exact (hB p hpm).conn b hb
      · rw [len_filter_flat]
        obtain ⟨p, hpm, hxi⟩ : ∃ p ∈ ps, x ∈ insV L v p := by
          by_cases e : x = v
          · obtain ⟨p, hpm⟩ := List.exists_mem_of_length_pos (show 0 < ps.length by omega)
            exact ⟨p, hpm, e ▸ hvi p⟩
          · obtain ⟨p, hpm, hxp⟩ := hcov x hx e
            exact ⟨p, hpm, mem_insV.2 ⟨hx, .inr hxp⟩⟩
        have h5 := sum_memB (fun p => ((blkF E k (insV L v p)).filter (has1 x)).length) ps p hpm
        have h6 := (hB p hpm).all x hxi
        omega
      · rw [len_filter_flat]
        obtain ⟨p, hpm, hxi, hyi, hother⟩ : ∃ p ∈ ps, x ∈ insV L v p ∧ y ∈ insV L v p ∧ ∀ q ∈ ps, q ≠ p → x ∉ insV L v q ∨ y ∉ insV L v q := by
          have only : ∀ z p, p ∈ ps → z ≠ v → z ∈ p → ∀ q ∈ ps, q ≠ p → z ∉ insV L v q := fun z p hpm hzv hz q hqm hne hzi => by
            rcases (mem_insV.1 hzi).2 with k | k
            · exact hzv k
            · exact hne (hapart q hqm p hpm z k hz)
          by_cases ex : x = v
          · have hyv : y ≠ v := fun ey => by
              rw [ex, ey, hirr] at hE
              cases hE
            obtain ⟨p, hpm, hyp⟩ := hcov y hy hyv
            exact ⟨p, hpm, ex ▸ hvi p, mem_insV.2 ⟨hy, .inr hyp⟩, fun q hqm hne => .inr (only y p hpm hyv hyp q hqm hne)⟩
          · obtain ⟨p, hpm, hxp⟩ := hcov x hx ex
            refine ⟨p, hpm, mem_insV.2 ⟨hx, .inr hxp⟩, mem_insV.2 ⟨hy, ?_⟩, fun q hqm hne => .inl (only x p hpm ex hxp q hqm hne)⟩
            by_cases ey : y = v
            · exact .inl ey
            · exact .inr ((hone p hpm).shut x y hxp hy ey hE)
        rw [sum_onlyB _ ps hn p hpm fun q hqm hne => filter_noneB fun b hb => by
          unfold has2
          rw [Bool.and_eq_false_iff, decide_eq_false_iff_not, decide_eq_false_iff_not]
          rcases hother q hqm hne with h7 | h7
          · exact .inl fun hxb => h7 ((hB q hqm).sub b hb x hxb)
          · exact .inr fun hyb => h7 ((hB q hqm).sub b hb y hyb)]
        exact (hB p hpm).edge x hxi y hyi hE
      · rw [len_filter_flat]
        by_cases e : x = v
        · subst e
          refine ⟨fun _ => ?_, fun _ => (cut_bet hs).1 hvc⟩
          have := sum_leB (fun p => ((blkF E k (insV L x p)).filter (has1 x)).length) 1 ps fun p hpm => (hB p hpm).all x (hvi p)
          omega
        · obtain ⟨p, hpm, hxp⟩ := hcov x hx e
          have hxi : x ∈ insV L v p := mem_insV.2 ⟨hx, .inr hxp⟩
          rw [sum_onlyB _ ps hn p hpm fun q hqm hne => hzero x q hqm fun hxq => by
            rcases (mem_insV.1 hxq).2 with k | k
            · exact e k
            · exact hne (hapart q hqm p hpm x k hxp)]
          rw [← (hB p hpm).cut x hxi]
          exact (hone p hpm).cut hs hc (fun y hy hyv hyp => by
            obtain ⟨q, hqm, hyq⟩ := hcov y hy hyv
            exact ⟨q, hone q hqm, hyq, fun z hzq hzp => hyp (by rw [hapart p hpm q hqm z hzp hzq]; exact hyq)⟩) hxp
      · rw [List.pairwise_flatMap]
        refine ⟨fun p hpm => (hB p hpm).pair, ?_⟩
        refine hn.imp_of_mem fun {p q} hpm hqm hne b hb c hc' x y hxb hxc hyb hyc => ?_
        have isv : ∀ z, z ∈ b → z ∈ c → z = v := fun z h1 h3 => by
          rcases (mem_insV.1 ((hB p hpm).sub b hb z h1)).2 with k1 | k1
          · exact k1
          · rcases (mem_insV.1 ((hB q hqm).sub c hc' z h3)).2 with k3 | k3
            · exact k3
            · exact absurd (hapart p hpm q hqm z k1 k3) hne
        rw [isv x hxb hxc, isv y hyb hyc]
      · rw [List.length_flatMap]
        have h5 := sum_geB (fun p => (blkF E k (insV L v p)).length) List.length ps fun p hpm => by
          have h7 := (hB p hpm).len
          have h8 := hlen p hpm
          have h9 : 1 ≤ p.length := List.length_pos_iff.2 (parts_nil hp p hpm)
          omega
        rw [htot] at h5
        omega
end

end Go.Proofs.YtkppbmfliejnmaaDoor

/- Plain: the blocks of a whole graph. -/
namespace Go.Proofs.YtkppbmfliejnmaaDoor

/-- All blocks of a graph, part for part. -/
noncomputable def blkA (E : Nat → Nat → Bool) (n : Nat) : List (List Nat) := (ptsOf E (List.range n)).flatMap fun p => blkF E n p
structure BlkG (E : Nat → Nat → Bool) (n : Nat) (B : List (List Nat)) : Prop where
  sub : ∀ b ∈ B, ∀ x ∈ b, x < n
  ris : ∀ b ∈ B, b.Pairwise (· < ·)
  conn : ∀ b ∈ B, ConnA E b
  edge : ∀ x, x < n → ∀ y, y < n → E x y = true → (B.filter (has2 x y)).length = 1
  cut : ∀ x, x < n → (CutV E (List.range n) x ↔ 2 ≤ (B.filter (has1 x)).length)
  pair : B.Pairwise fun b c => ∀ x y, x ∈ b → x ∈ c → y ∈ b → y ∈ c → x = y
  one : B.length = 1 ↔ ConnA E (List.range n) ∧ ∀ x, ¬ CutV E (List.range n) x
  len : B.length ≤ n
section
variable {E : Nat → Nat → Bool}
theorem BlkG.perm {n : Nat} {B C : List (List Nat)} (h : BlkG E n B) (hp : C.Perm B) : BlkG E n C where
  sub := fun b hb => h.sub b (hp.mem_iff.1 hb)
  ris := fun b hb => h.ris b (hp.mem_iff.1 hb)
  conn := fun b hb => h.conn b (hp.mem_iff.1 hb)
  edge := fun x hx y hy hE => by rw [(hp.filter _).length_eq]; exact h.edge x hx y hy hE
  cut := fun x hx => by rw [(hp.filter _).length_eq]; exact h.cut x hx
  pair := (hp.pairwise_iff fun {b c} k x y h1 h2 h3 h4 => k x y h2 h1 h4 h3).2 h.pair
  one := by rw [hp.length_eq]; exact h.one
  len := by rw [hp.length_eq]; exact h.len
theorem blkA_ok (hs : ∀ r j, E r j = true → E j r = true) (hirr : ∀ r, E r r = false) {n : Nat} (hn : 1 ≤ n) : BlkG E n (blkA E n) := by
  unfold blkA
  have hp := ptsOf_ok E (List.range n)
  obtain ⟨ps, hps⟩ : ∃ ps, ps = ptsOf E (List.range n) := ⟨_, rfl⟩
  rw [← hps] at hp ⊢
  have hnd := parts_nodup hs hp
  have hin : ∀ p ∈ ps, ∀ x ∈ p, x < n := fun p hpm x hx => List.mem_range.1 (parts_in hp p hpm x hx)
  have hris : ∀ p ∈ ps, p.Pairwise (· < ·) := parts_ris hp List.pairwise_lt_range
  have hpl : ∀ p ∈ ps, p.length ≤ n := fun p hpm => nodup_le n p ((hris p hpm).imp fun h => Nat.ne_of_lt h) (hin p hpm)
  have hB : ∀ p ∈ ps, BlkP E p (blkF E n p) := fun p hpm => blk_ok hs hirr n p (hpl p hpm) (hris p hpm) ((connA_iff hs).2 (parts_conn hp p hpm))
  have hapart : ∀ p ∈ ps, ∀ q ∈ ps, ∀ x, x ∈ p → x ∈ q → p = q := fun p hpm q hqm x hx hy => by
    rw [(parts_at hs hp hpm hx).1, (parts_at hs hp hqm hy).1]
  have hcov : ∀ x, x < n → ∃ p ∈ ps, x ∈ p := fun x hx => ⟨_, (parts_mem hs hp _).2 ⟨x, List.mem_range.2 hx, rfl⟩, self_partL (List.mem_range.2 hx)⟩
  have hshut : ∀ p ∈ ps, ∀ z y, z ∈ p → y ∈ List.range n → E z y = true → y ∈ p := fun p hpm z y hz hy hE => by
    obtain ⟨e, hzL⟩ := parts_at hs hp hpm hz
    rw [e]
    exact mem_partL.2 ⟨hy, .step .base hE hy⟩
  have htot := parts_total hp
  rw [List.length_range] at htot
  have hcnt : ∀ p ∈ ps, ∀ x ∈ p, (ps.map fun q => ((blkF E n q).filter (has1 x)).length).sum = ((blkF E n p).filter (has1 x)).length := fun p hpm x hx =>
    sum_onlyB _ ps hnd p hpm fun q hqm hne => filter_noneB fun b hb => by
      unfold has1
      rw [decide_eq_false_iff_not]
      exact fun hxb => hne (hapart q hqm p hpm x ((hB q hqm).sub b hb x hxb) hx)
  have hcut : ∀ x, x < n → (CutV E (List.range n) x ↔ 2 ≤ ((ps.flatMap fun p => blkF E n p).filter (has1 x)).length) := fun x hx => by
    obtain ⟨p, hpm, hxp⟩ := hcov x hx
    rw [len_filter_flat, hcnt p hpm x hxp, ← (hB p hpm).cut x hxp, cut_bet hs]
    exact (cut_part hs (fun z hz => List.mem_range.2 (hin p hpm z hz)) (hshut p hpm) hxp).symm
  have hlen : (ps.flatMap fun p => blkF E n p).length ≤ n := by
    rw [List.length_flatMap]
    have := sum_geB (fun p => (blkF E n p).length) List.length ps fun p hpm => by
      have := (hB p hpm).len
      omega
    rw [htot] at this
    exact this
  have hbpos : ∀ p ∈ ps, 1 ≤ (blkF E n p).length := fun p hpm => by
    obtain ⟨z, hz⟩ := List.exists_mem_of_ne_nil _ (parts_nil hp p hpm)
    exact Nat.le_trans ((hB p hpm).all z hz) (List.length_filter_le _ _)
  refine ⟨fun b hb x hx => ?_, fun b hb => ?_, fun b hb => ?_, fun x hx y hy hE => ?_, hcut, ?_, ⟨fun h1 => ?_, ?_⟩, hlen⟩
  · obtain ⟨p, hpm, hb⟩ := List.mem_flatMap.1 hb
    exact hin p hpm x ((hB p hpm).sub b hb x hx)
  · obtain ⟨p, hpm, hb⟩ := List.mem_flatMap.1 hb
    exact (hB p hpm).ris b hb
  · obtain ⟨p, hpm, hb⟩ := List.mem_flatMap.1 hb
    exact (hB p hpm).conn b hb
  · rw [len_filter_flat]
    obtain ⟨p, hpm, hxp⟩ := hcov x hx
    have hyp := hshut p hpm x y hxp (List.mem_range.2 hy) hE
    rw [sum_onlyB _ ps hnd p hpm fun q hqm hne => filter_noneB fun b hb => by
      unfold has2
      rw [Bool.and_eq_false_iff, decide_eq_false_iff_not]
      exact .inl fun hxb => hne (hapart q hqm p hpm x ((hB q hqm).sub b hb x hxb) hxp)]
    exact (hB p hpm).edge x hxp y hyp hE
  · rw [List.pairwise_flatMap]
    refine ⟨fun p hpm => (hB p hpm).pair, ?_⟩
    exact hnd.imp_of_mem fun {p q} hpm hqm hne b hb c hc x y hxb hxc _ _ => absurd (hapart p hpm q hqm x ((hB p hpm).sub b hb x hxb) ((hB q hqm).sub c hc x hxc)) hne
  · have h2 := sum_leB (fun p => (blkF E n p).length) 1 ps hbpos
    rw [List.length_flatMap] at h1
    have h3 : ps.length ≤ 1 := by omega
    refine ⟨⟨fun e => by have := congrArg List.length e; simp at this; omega, fun a ha b hb => ?_⟩, fun x hx => ?_⟩
    · have ea := (parts_mem hs hp _).2 ⟨a, ha, rfl⟩
      have eb := (parts_mem hs hp _).2 ⟨b, hb, rfl⟩
      have e : partL E (List.range n) a = partL E (List.range n) b := by
        match ps, h3, ea, eb with
        | [p], _, ea, eb => rw [List.mem_singleton.1 ea, List.mem_singleton.1 eb]
        | [], _, ea, _ => cases ea
        | _ :: _ :: _, h3, _, _ => simp at h3
      have : b ∈ partL E (List.range n) a := by rw [e]; exact self_partL hb
      exact (mem_partL.1 this).2
    · have h4 := (hcut x (List.mem_range.1 hx.1)).1 hx
      have h5 := List.length_filter_le (has1 x) (ps.flatMap fun p => blkF E n p)
      rw [List.length_flatMap] at h5
      omega
  · rintro ⟨hc, hno⟩
    have hone : ∀ p ∈ ps, p = List.range n := fun p hpm => by
      obtain ⟨z, hz, rfl⟩ := (parts_mem hs hp p).1 hpm
      exact List.filter_eq_self.2 fun y hy => dec_true (hc.2 z hz y hy)
    have h3 : ps = [List.range n] := by
      match ps, hnd, hone, parts_len_pos hp hc.1 with
      | [p], _, hone, _ => rw [hone p (by simp)]
      | [], _, _, h => simp at h
      | p :: q :: r, hnd, hone, _ =>
        have e1 := hone p (by simp)
        have e2 := hone q (by simp)
        rw [e1, e2] at hnd
        simp at hnd
    rw [h3]
    have hnil : cutsL E (List.range n) = [] := List.eq_nil_iff_forall_not_mem.2 fun x hx => hno x (mem_cutsL.1 hx)
    obtain ⟨m, rfl⟩ : ∃ m, n = m + 1 := ⟨n - 1, by omega⟩
    simp only [List.flatMap_cons, List.flatMap_nil, List.append_nil]
    rw [blkF_none hnil]
    rfl
end

end Go.Proofs.YtkppbmfliejnmaaDoor
