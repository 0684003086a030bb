/- Plain: the sets of so many numbers in turn; the least set that meets all sets; sets that touch. -/
import Derived.Test.YtiooindlpinjhaaDoorBbQ9
import Derived.Test.YtiooindlpinjhaaDoorBbQ11
import Derived.Test.YtiooindlpinjhaaDoorBbQ10
import Derived.Test.YtiooindlpinjhaaDoorBbQ8
import Derived.Deep.RegionLaw
namespace Go.Proofs.YtiooindlpinjhaaDoor

def lastp (o : List Nat) : Nat := match o.getLast? with
  | none => 0
  | some x => x + 1
theorem lastp_snoc (o : List Nat) (x : Nat) : lastp (o ++ [x]) = x + 1 := by simp [lastp]
theorem snoc_or (o : List Nat) : o = [] ∨ ∃ o' x, o = o' ++ [x] := by
  rcases List.eq_nil_or_concat o with h | ⟨a, b, h⟩
  · exact .inl h
  · exact .inr ⟨a, b, by rw [h]; simp⟩
theorem lastp_le {o : List Nat} (h : o.Pairwise (· < ·)) {v : Nat} : (∀ a ∈ o, a < v) ↔ lastp o ≤ v := by
  rcases snoc_or o with rfl | ⟨o', x, rfl⟩
  · simp [lastp]
  · rw [lastp_snoc]
    rw [List.pairwise_append] at h
    constructor
    · intro k
      have := k x (by simp)
      omega
    · intro k a ha
      rcases List.mem_append.1 ha with e | e
      · have := h.2.2 a e x (by simp)
        omega
      · have : a = x := by simpa using e
        omega
def extS (n : Nat) (o : List Nat) : List (List Nat) := ((List.range n).filter fun v => decide (lastp o ≤ v)).map fun v => o ++ [v]
def setsL (n : Nat) : Nat → List (List Nat)
  | 0 => [[]]
  | k + 1 => (setsL n k).flatMap (extS n)
theorem cand_snoc {n k : Nat} {o : List Nat} {v : Nat} : Cand n 0 (k + 1) (o ++ [v]) ↔ Cand n 0 k o ∧ v < n ∧ lastp o ≤ v := by
  constructor
  · intro h
    have h1 := List.pairwise_append.1 h.ris
    refine ⟨⟨h1.1, fun x hx => h.inn x (by simp [hx]), by have := h.len; simp at this; omega⟩, (h.inn v (by simp)).2, (lastp_le h1.1).1 fun a ha => h1.2.2 a ha v (by simp)⟩
  · rintro ⟨h, h1, h2⟩
    refine ⟨List.pairwise_append.2 ⟨h.ris, by simp, fun a ha b hb => ?_⟩, fun x hx => ?_, by rw [List.length_append, h.len]; rfl⟩
    · have : b = v := by simpa using hb
      rw [this]
      exact (lastp_le h.ris).2 h2 a ha
    · rcases List.mem_append.1 hx with e | e
      · exact h.inn x e
      · have : x = v := by simpa using e
        omega
theorem mem_setsL {n : Nat} : ∀ (k : Nat) (T : List Nat), T ∈ setsL n k ↔ Cand n 0 k T
  | 0, T => by
    simp only [setsL, List.mem_singleton]
    exact ⟨fun h => h ▸ cand_nil n 0, fun h => cand_zero h⟩
  | k + 1, T => by
    simp only [setsL, List.mem_flatMap, extS, List.mem_map, List.mem_filter, List.mem_range, decide_eq_true_eq]
    constructor
    · rintro ⟨o, ho, v, ⟨h1, h2⟩, rfl⟩
      exact cand_snoc.2 ⟨(mem_setsL k o).1 ho, h1, h2⟩
    · intro h
      rcases snoc_or T with rfl | ⟨o, v, rfl⟩
      · have := h.len
        simp at this
      · obtain ⟨h1, h2, h3⟩ := cand_snoc.1 h
        exact ⟨o, (mem_setsL k o).2 h1, v, ⟨h2, h3⟩, rfl⟩
theorem lexL_longS : ∀ {a b : List Nat} (s t : List Nat), a.length = b.length → lexL a b → lexL (a ++ s) (b ++ t)
  | [], [], _, _, _, h => h.elim
  | a :: l, b :: m, s, t, e, h => by
    simp only [List.cons_append, lexL] at h ⊢
    rcases h with h | ⟨h1, h2⟩
    · exact .inl h
    · exact .inr ⟨h1, lexL_longS s t (by simpa using e) h2⟩
theorem setsL_sorted {n : Nat} : ∀ k, (setsL n k).Pairwise lexL
  | 0 => by simp [setsL]
  | k + 1 => by
    rw [setsL, List.pairwise_flatMap]
    refine ⟨fun o _ => ?_, ?_⟩
    · unfold extS
      rw [List.pairwise_map]
      refine List.Pairwise.imp (fun {v w} h => ?_) (List.Pairwise.filter _ List.pairwise_lt_range)
      rw [lexL_app]
      exact .inl h
    · refine (setsL_sorted k).imp_of_mem fun {a b} ha hb h x hx y hy => ?_
      obtain ⟨v, _, rfl⟩ := List.mem_map.1 hx
      obtain ⟨w, _, rfl⟩ := List.mem_map.1 hy
      exact lexL_longS _ _ (((mem_setsL k a).1 ha).len.trans ((mem_setsL k b).1 hb).len.symm) h
theorem cand_bitsM {n k : Nat} (hn : n ≤ 16) {T : List Nat} (h : Cand n 0 k T) : bitsOf (mask (natInts T)) = T := bitsOf_maskN h.ris fun x hx => by have := (h.inn x hx).2; omega
theorem setsL_len {n : Nat} (hn : n ≤ 16) (k : Nat) : (setsL n k).length ≤ 65536 := by
  have h1 : ((setsL n k).map fun T => mask (natInts T)).Nodup := by
    unfold List.Nodup
    rw [List.pairwise_map]
    refine (setsL_sorted k).imp_of_mem fun {a b} ha hb h e => ?_
    have h2 := cand_bitsM hn ((mem_setsL k a).1 ha)
    rw [e, cand_bitsM hn ((mem_setsL k b).1 hb)] at h2
    rw [h2] at h
    exact lexL_irrefl _ h
  have h2 := nodup_le (2 ^ n) _ h1 fun x hx => by
    obtain ⟨T, hT, rfl⟩ := List.mem_map.1 hx
    exact cand_lt ((mem_setsL k T).1 hT)
  rw [List.length_map] at h2
  have h3 : 2 ^ n ≤ 2 ^ 16 := Nat.pow_le_pow_right (by decide) hn
  have h4 : (2 : Nat) ^ 16 = 65536 := by decide
  omega
theorem cand_room {n k : Nat} {T : List Nat} (h : Cand n 0 k T) : k ≤ n := by
  have := nodup_le n T (h.ris.imp fun {a b} k => Nat.ne_of_lt k) fun x hx => (h.inn x hx).2
  rw [← h.len]; exact this
theorem lexL_asymS {a b : List Nat} (h : lexL a b) : ¬ lexL b a := fun k => lexL_irrefl _ (lexL_trans h k)
/-- The first one in turn is the least one. -/
theorem first_least {P : Nat → Prop} {n k i : Nat} (hn : n ≤ 16) (hno : ∀ m, m < k → ∀ T ∈ setsL n m, ¬ P (mask (natInts T))) (hi : i < (setsL n k).length) (hP : P (mask (natInts (setsL n k)[i])))
    (hb : ∀ j (hj : j < (setsL n k).length), j < i → ¬ P (mask (natInts (setsL n k)[j]))) : LeastP P n (mask (natInts (setsL n k)[i])) := by
  have hc := (mem_setsL k _).1 (List.getElem_mem hi)
  refine ⟨cand_lt hc, hP, fun t ht hPt hl => ?_⟩
  rw [cand_bitsM hn hc] at hl
  obtain ⟨hct, ht16⟩ := cand_bits hn ht
  have hmt := (mem_setsL _ _).2 hct
  have hPt' : P (mask (natInts (bitsOf t))) := by rw [mask_bitsOf ht16]; exact hPt
  rcases hl with hl | ⟨hl1, hl2⟩
  · exact hno _ (by rw [hc.len] at hl; exact hl) _ hmt hPt'
  · rw [hl1, hc.len] at hmt
    obtain ⟨j, hj, e⟩ := List.getElem_of_mem hmt
    rw [← e] at hl2 hPt'
    by_cases h1 : j < i
    · exact hb j hj h1 hPt'
    · by_cases h2 : j = i
      · subst h2
        exact lexL_irrefl _ hl2
      · exact lexL_asymS hl2 (List.pairwise_iff_getElem.1 (setsL_sorted k) i j hi hj (by omega))
theorem none_all {P : Nat → Prop} {n : Nat} (hn : n ≤ 16) (hno : ∀ m, m < n + 1 → ∀ T ∈ setsL n m, ¬ P (mask (natInts T))) : ∀ t, t < 2 ^ n → ¬ P t := fun t ht hP => by
  obtain ⟨hct, ht16⟩ := cand_bits hn ht
  have := cand_room hct
  refine hno _ (by omega) _ ((mem_setsL _ _).2 hct) ?_
  rw [mask_bitsOf ht16]; exact hP

/-- A set that meets all sets. -/
def CovN (S : List (List Int)) (s : Nat) : Prop := ∀ j, j < S.length → ∃ i, s.testBit i = true ∧ (i : Int) ∈ row S j
/-- Two sets touch. -/
def TouchP (g : List (List Int)) (A B : List Int) : Prop := ∃ x ∈ A, x ∈ B ∨ ∃ y ∈ B, x ∈ row g y.toNat
def BrTo (g S : List (List Int)) (i : Nat) : Prop := ∀ a, a < i → ConnS g (row S a) ∧ ∀ b, b < a → TouchP g (row S b) (row S a)
def BrS (g S : List (List Int)) : Prop := (GOk g ∧ S.length ≤ 80) ∧ BrTo g S S.length
theorem brTo_step {g S : List (List Int)} {i : Nat} (h : BrTo g S i) (h1 : ConnS g (row S i)) (h2 : ∀ b, b < i → TouchP g (row S b) (row S i)) : BrTo g S (i + 1) := fun a ha => by
  by_cases e : a < i
  · exact h a e
  · obtain rfl : a = i := by omega
    exact ⟨h1, h2⟩
def CvS (g S : List (List Int)) (ys : List Int) : Prop :=
  (BrS g S ∧ ((∃ s, LeastP (CovN S) g.length s ∧ ys = natInts (bitsOf s)) ∨ ((∀ t, t < 2 ^ g.length → ¬ CovN S t) ∧ ys = []))) ∨ (¬ BrS g S ∧ ys = [])
theorem cvS_det {g S : List (List Int)} {ys zs : List Int} (h : CvS g S ys) (k : CvS g S zs) : ys = zs := by
  rcases h with ⟨h, h2⟩ | ⟨h, rfl⟩ <;> rcases k with ⟨k, k2⟩ | ⟨k, rfl⟩
  · rcases h2 with ⟨s, h3, rfl⟩ | ⟨h3, rfl⟩ <;> rcases k2 with ⟨t, k3, rfl⟩ | ⟨k3, rfl⟩
    · rw [leastP_det h.1.1.le h3 k3]
    · exact absurd h3.2.1 (k3 _ h3.1)
    · exact absurd k3.2.1 (h3 _ k3.1)
    · rfl
  · exact absurd h k
  · exact absurd k h
  · rfl

end Go.Proofs.YtiooindlpinjhaaDoor

/- Plain: the parts are connected, no two of them together, and all vertices are in them. -/
namespace Go.Proofs.YtiooindlpinjhaaDoor

theorem rch_partL {E : Nat → Nat → Bool} {L : List Nat} {u : Nat} : ∀ x, Rch E (· ∈ L) u x → Rch E (· ∈ partL E L u) u x := by
  intro x h
  refine (rch_closed (T := fun x => Rch E (· ∈ L) u x ∧ Rch E (· ∈ partL E L u) u x) ⟨.base, .base⟩ (fun a b ha hE hb => ?_) x h).2
  have hb2 : Rch E (· ∈ L) u b := .step ha.1 hE hb
  exact ⟨hb2, .step ha.2 hE (mem_partL.2 ⟨hb, hb2⟩)⟩
theorem partL_head {E : Nat → Nat → Bool} {L : List Nat} {u : Nat} : partL E (u :: L) u = u :: (L.filter fun x => dec (Rch E (· ∈ u :: L) u x)) := by
  unfold partL
  exact List.filter_cons_of_pos (p := fun x => dec (Rch E (· ∈ u :: L) u x)) (dec_true .base)
theorem conn_partL {E : Nat → Nat → Bool} {L : List Nat} {u : Nat} : ConnL E (partL E (u :: L) u) := by
  have h := partL_head (E := E) (L := L) (u := u)
  refine ⟨by rw [h]; simp, fun x hx => ?_⟩
  have hh : (partL E (u :: L) u).headD 0 = u := by rw [h]; rfl
  rw [hh]
  exact rch_partL x (mem_partL.1 hx).2
theorem parts_conn {E : Nat → Nat → Bool} {L : List Nat} {ps : List (List Nat)} (h : Parts E L ps) : ∀ p ∈ ps, ConnL E p := by
  induction h with
  | done => intro p hp; simp at hp
  | step u L ps _ ih =>
    intro p hp
    rcases List.mem_cons.1 hp with rfl | hp
    · exact conn_partL
    · exact ih p hp
theorem parts_in {E : Nat → Nat → Bool} {L : List Nat} {ps : List (List Nat)} (h : Parts E L ps) : ∀ p ∈ ps, ∀ x ∈ p, x ∈ L := by
  induction h with
  | done => intro p hp; simp at hp
  | step u L ps _ ih =>
    intro p hp x hx
    rcases List.mem_cons.1 hp with rfl | hp
    · exact (mem_partL.1 hx).1
    · exact (mem_restL.1 (ih p hp x hx)).1
theorem parts_ris {E : Nat → Nat → Bool} {L : List Nat} {ps : List (List Nat)} (h : Parts E L ps) : L.Pairwise (· < ·) → ∀ p ∈ ps, p.Pairwise (· < ·) := by
  induction h with
  | done => intro _ p hp; simp at hp
  | step u L ps _ ih =>
    intro hL p hp
    rcases List.mem_cons.1 hp with rfl | hp
    · exact partL_rising hL u
    · exact ih (restL_rising hL u) p hp
/-- Between two parts there is nothing. -/
theorem parts_apart {E : Nat → Nat → Bool} {L : List Nat} {ps : List (List Nat)} (h : Parts E L ps) : ps.Pairwise fun p q => ∀ x ∈ p, ∀ y ∈ q, x ≠ y ∧ E x y = false := by
  induction h with
  | done => exact List.Pairwise.nil
  | step u L ps h1 ih =>
    refine List.Pairwise.cons (fun q hq x hx y hy => ?_) ih
    have hx2 := mem_partL.1 hx
    have hy2 := mem_restL.1 (parts_in h1 q hq y hy)
    refine ⟨fun e => hy2.2 (e ▸ hx2.2), ?_⟩
    cases hE : E x y with
    | false => rfl
    | true => exact absurd (.step hx2.2 hE hy2.1) hy2.2
theorem filter_not_len {α : Type} (p : α → Bool) : ∀ l : List α, (l.filter p).length + (l.filter fun x => !p x).length = l.length
  | [] => rfl
  | a :: l => by
    have ih := filter_not_len p l
    cases h : p a <;> simp [List.filter_cons, h] <;> omega
theorem parts_total {E : Nat → Nat → Bool} {L : List Nat} {ps : List (List Nat)} (h : Parts E L ps) : (ps.map List.length).sum = L.length := by
  induction h with
  | done => rfl
  | step u L ps _ ih =>
    have := filter_not_len (fun x => dec (Rch E (· ∈ u :: L) u x)) (u :: L)
    simp only [List.map_cons, List.sum_cons, ih]
    exact this
/-- Two sets without an edge between them are not connected together. -/
theorem not_conn_two {E : Nat → Nat → Bool} (hs : ∀ r j, E r j = true → E j r = true) {p q S : List Nat} (hp : p ≠ []) (hq : q ≠ []) (hS : ∀ x, x ∈ S ↔ x ∈ p ∨ x ∈ q) (h : ∀ x ∈ p, ∀ y ∈ q, x ≠ y ∧ E x y = false) : ¬ ConnL E S := by
  rintro ⟨hne, hr⟩
  have key : ∀ p q : List Nat, q ≠ [] → (∀ x, x ∈ S ↔ x ∈ p ∨ x ∈ q) → (∀ x ∈ p, ∀ y ∈ q, x ≠ y ∧ E x y = false) → S.headD 0 ∈ p → False := by
    intro p q hq hS h h0
    have hcl : ∀ x, Rch E (· ∈ S) (S.headD 0) x → x ∈ p := rch_closed h0 fun a b ha hE hb => by
      rcases (hS b).1 hb with h1 | h1
      · exact h1
      · have := (h a ha b h1).2
        rw [this] at hE
        exact absurd hE (by decide)
    obtain ⟨y, hy⟩ := List.exists_mem_of_ne_nil q hq
    have := hcl y (hr y ((hS y).2 (.inr hy)))
    exact (h y this y hy).1 rfl
  have hh : S.headD 0 ∈ S := by
    cases S with
    | nil => exact absurd rfl hne
    | cons a S => simp
  rcases (hS _).1 hh with h1 | h1
  · exact key p q hq hS h h1
  · refine key q p hp (fun x => (hS x).trans Or.comm) (fun x hx y hy => ?_) h1
    have := h y hy x hx
    refine ⟨fun e => this.1 e.symm, ?_⟩
    cases hE : E x y with
    | false => rfl
    | true =>
      have h2 := hs _ _ hE
      rw [this.2] at h2
      exact absurd h2 (by decide)

end Go.Proofs.YtiooindlpinjhaaDoor

/- Plain: edges cut; bridges; the parts without them. -/
namespace Go.Proofs.YtiooindlpinjhaaDoor

def cutE (E : Nat → Nat → Bool) (p q : Nat) : Nat → Nat → Bool := fun r j => E r j && !((r == p && j == q) || (r == q && j == p))
theorem cutE_sym {E : Nat → Nat → Bool} (h : ∀ r j, E r j = true → E j r = true) (p q : Nat) (r j : Nat) (he : cutE E p q r j = true) : cutE E p q j r = true := by
  simp only [cutE, Bool.and_eq_true, Bool.not_eq_true', Bool.or_eq_false_iff, Bool.and_eq_false_iff, beq_eq_false_iff_ne] at he ⊢
  obtain ⟨h1, h2, h3⟩ := he
  refine ⟨h _ _ h1, ?_, ?_⟩
  · rcases h3 with h3 | h3
    · exact .inr h3
    · exact .inl h3
  · rcases h2 with h2 | h2
    · exact .inr h2
    · exact .inl h2
theorem cutE_irr {E : Nat → Nat → Bool} (h : ∀ r, E r r = false) (p q r : Nat) : cutE E p q r r = false := by simp [cutE, h r]

/-- Two vertices are made no neighbours. -/
def partN (a : List Nat) (u v : Nat) : List Nat := let b := a.set u (sub (a.getD u 0) (2 ^ v)); b.set v (sub (b.getD v 0) (2 ^ u))
theorem partN_length (a : List Nat) (u v : Nat) : (partN a u v).length = a.length := by simp [partN]
theorem partN_indN {n : Nat} (hn : n ≤ 16) {E : Nat → Nat → Bool} {u v : Nat} (hu : u < n) (hv : v < n) (huv : u ≠ v) : partN (indN n E) u v = indN n (cutE E u v) := by
  have hl := indN_length n E
  have h16 := indN_lt16 (E := E) hn
  refine natList_ext (by rw [partN_length, hl, indN_length]) fun r hr => ?_
  rw [partN_length, hl] at hr
  have e : (partN (indN n E) u v).getD r 0 = if r = v then sub ((indN n E).getD v 0) (2 ^ u) else if r = u then sub ((indN n E).getD u 0) (2 ^ v) else (indN n E).getD r 0 := by
    unfold partN
    rw [getD_set _ _ _ _ (by rw [List.length_set, hl]; exact hv)]
    by_cases e : r = v
    · subst e
      rw [if_pos rfl, if_pos rfl, getD_set _ _ _ _ (by rw [hl]; exact hu), if_neg (fun q => huv q.symm)]
    · rw [if_neg e, if_neg e, getD_set _ _ _ _ (by rw [hl]; exact hu)]
  rw [e]
  refine Nat.eq_of_testBit_eq fun j => ?_
  rw [Bool.eq_iff_iff, indN_bit hr]
  by_cases e1 : r = v
  · subst e1
    rw [if_pos rfl, testBit_sub1 (lt16_getD h16 _) (by omega), indN_bit hr]
    simp only [cutE, Bool.and_eq_true, decide_eq_true_eq, Bool.not_eq_true', Bool.or_eq_false_iff, Bool.and_eq_false_iff, beq_eq_false_iff_ne, ne_eq]
    constructor
    · rintro ⟨⟨h1, h2⟩, h3⟩; exact ⟨h1, h2, .inl (fun q => huv q.symm), .inr h3⟩
    · rintro ⟨h1, h2, _, h3⟩
      exact ⟨⟨h1, h2⟩, fun q => by rcases h3 with h3 | h3; exact h3 trivial; exact h3 q⟩
  · rw [if_neg e1]
    by_cases e2 : r = u
    · subst e2
      rw [if_pos rfl, testBit_sub1 (lt16_getD h16 _) (by omega), indN_bit hr]
      simp only [cutE, Bool.and_eq_true, decide_eq_true_eq, Bool.not_eq_true', Bool.or_eq_false_iff, Bool.and_eq_false_iff, beq_eq_false_iff_ne, ne_eq]
      constructor
      · rintro ⟨⟨h1, h2⟩, h3⟩; exact ⟨h1, h2, .inr h3, .inl e1⟩
      · rintro ⟨h1, h2, h3, _⟩
        exact ⟨⟨h1, h2⟩, fun q => by rcases h3 with h3 | h3; exact h3 trivial; exact h3 q⟩
    · rw [if_neg e2, indN_bit hr]
      have a1 : (r == u) = false := by simpa using e2
      have a2 : (r == v) = false := by simpa using e1
      simp [cutE, a1, a2]
theorem joinL_cut {n : Nat} {E : Nat → Nat → Bool} {u v : Nat} (hu : u < n) (hv : v < n) (huv : u ≠ v) (h1 : E u v = true) (h2 : E v u = true) : joinL (indN n (cutE E u v)) u v = indN n E := by
  refine natList_ext (by rw [joinL_length, indN_length, indN_length]) fun r hr => ?_
  rw [joinL_length, indN_length] at hr
  refine Nat.eq_of_testBit_eq fun j => ?_
  rw [Bool.eq_iff_iff, joinL_testBit (by rw [indN_length]; exact hu) (by rw [indN_length]; exact hv) huv, indN_bit hr, indN_bit hr]
  simp only [cutE, Bool.and_eq_true, decide_eq_true_eq, Bool.not_eq_true', Bool.or_eq_false_iff, Bool.and_eq_false_iff, beq_eq_false_iff_ne, ne_eq]
  constructor
  · rintro (⟨a, b, _⟩ | ⟨rfl, rfl⟩ | ⟨rfl, rfl⟩)
    · exact ⟨a, b⟩
    · exact ⟨hv, h1⟩
    · exact ⟨hu, h2⟩
  · rintro ⟨a, b⟩
    by_cases c1 : r = u ∧ j = v
    · exact .inr (.inl c1)
    · by_cases c2 : r = v ∧ j = u
      · exact .inr (.inr c2)
      · refine .inl ⟨a, b, ?_, ?_⟩
        · by_cases q : r = u
          · exact .inr fun q2 => c1 ⟨q, q2⟩
          · exact .inl q
        · by_cases q : r = v
          · exact .inr fun q2 => c2 ⟨q, q2⟩
          · exact .inl q

/-- The edges, in order. -/
def edRow (n : Nat) (E : Nat → Nat → Bool) (u : Nat) : List (Nat × Nat) := ((List.range n).filter fun v => decide (u < v) && E u v).map fun v => (u, v)
def edN (n : Nat) (E : Nat → Nat → Bool) (k : Nat) : List (Nat × Nat) := (List.range k).flatMap (edRow n E)
theorem edN_succ (n : Nat) (E : Nat → Nat → Bool) (k : Nat) : edN n E (k + 1) = edN n E k ++ edRow n E k := by simp [edN, List.range_succ, List.flatMap_append]
theorem mem_edN {n : Nat} {E : Nat → Nat → Bool} {k : Nat} (hk : k ≤ n) {e : Nat × Nat} (h : e ∈ edN n E k) : e.1 < n ∧ e.2 < n ∧ e.1 < e.2 ∧ E e.1 e.2 = true := by
  simp only [edN, edRow, List.mem_flatMap, List.mem_range, List.mem_map, List.mem_filter, Bool.and_eq_true, decide_eq_true_eq] at h
  obtain ⟨u, hu, v, ⟨hv, h1, h2⟩, rfl⟩ := h
  exact ⟨by show u < n; omega, hv, h1, h2⟩
theorem edRow_length (n : Nat) (E : Nat → Nat → Bool) (u : Nat) : (edRow n E u).length ≤ n := by
  simp only [edRow, List.length_map]
  exact Nat.le_trans (List.length_filter_le _ _) (by simp)
theorem edN_length (n : Nat) (E : Nat → Nat → Bool) : ∀ k, (edN n E k).length ≤ k * n
  | 0 => by simp [edN]
  | k + 1 => by
    rw [edN_succ, List.length_append]
    have h1 := edN_length n E k
    have h2 := edRow_length n E k
    have : (k + 1) * n = k * n + n := Nat.succ_mul k n
    omega

/-- No way between the ends of an edge without it. -/
def Brd (n : Nat) (E : Nat → Nat → Bool) (e : Nat × Nat) : Prop := ¬ Rch (cutE E e.1 e.2) (· ∈ List.range n) e.1 e.2
noncomputable def brdL (n : Nat) (E : Nat → Nat → Bool) (l : List (Nat × Nat)) : List (Nat × Nat) := l.filter fun e => dec (Brd n E e)
theorem brdL_snoc (n : Nat) (E : Nat → Nat → Bool) (l : List (Nat × Nat)) (e : Nat × Nat) : brdL n E (l ++ [e]) = if dec (Brd n E e) = true then brdL n E l ++ [e] else brdL n E l := by
  unfold brdL
  rw [List.filter_append]
  by_cases h : dec (Brd n E e) = true
  · rw [if_pos h]; simp [List.filter_cons, h]
  · rw [if_neg h]; simp [List.filter_cons, h]
theorem brdL_length (n : Nat) (E : Nat → Nat → Bool) (l : List (Nat × Nat)) : (brdL n E l).length ≤ l.length := List.length_filter_le _ _
theorem mem_brdL {n : Nat} {E : Nat → Nat → Bool} {l : List (Nat × Nat)} {e : Nat × Nat} (h : e ∈ brdL n E l) : e ∈ l := (List.mem_filter.1 h).1
def cutAll (E : Nat → Nat → Bool) (l : List (Nat × Nat)) : Nat → Nat → Bool := l.foldl (fun E e => cutE E e.1 e.2) E
theorem cutAll_snoc (E : Nat → Nat → Bool) (l : List (Nat × Nat)) (e : Nat × Nat) : cutAll E (l ++ [e]) = cutE (cutAll E l) e.1 e.2 := by simp [cutAll]
theorem cutAll_sym {E : Nat → Nat → Bool} (h : ∀ r j, E r j = true → E j r = true) (l : List (Nat × Nat)) : ∀ r j, cutAll E l r j = true → cutAll E l j r = true := by
  induction l generalizing E with
  | nil => exact h
  | cons e l ih => exact ih (cutE_sym h _ _)
theorem cutAll_irr {E : Nat → Nat → Bool} (h : ∀ r, E r r = false) (l : List (Nat × Nat)) : ∀ r, cutAll E l r r = false := by
  induction l generalizing E with
  | nil => exact h
  | cons e l ih => exact ih (cutE_irr h _ _)

/-- Pairs, as rows. -/
def prsL (l : List (Nat × Nat)) : List (List Int) := l.map fun e => [(e.1 : Int), (e.2 : Int)]
theorem prsL_length (l : List (Nat × Nat)) : (prsL l).length = l.length := by simp [prsL]
theorem prsL_snoc (l : List (Nat × Nat)) (e : Nat × Nat) : prsL (l ++ [e]) = prsL l ++ [[(e.1 : Int), (e.2 : Int)]] := by simp [prsL]

/-- What EdgeParts returns. -/
def EpS (g : List (List Int)) (gg : List (List Int)) : Prop :=
  (GOk g ∧ ∃ ps, Parts (cutAll (ofG g) (brdL g.length (ofG g) (edN g.length (ofG g) g.length))) (List.range g.length) ps ∧ gg = ps.map natInts) ∨ (¬ GOk g ∧ gg = [])
theorem epS_det {g gg hh : List (List Int)} (h : EpS g gg) (h2 : EpS g hh) : gg = hh := by
  rcases h with ⟨hg, ps, h, rfl⟩ | ⟨hg, rfl⟩ <;> rcases h2 with ⟨hg2, qs, h2, rfl⟩ | ⟨hg2, rfl⟩
  · rw [parts_det h h2]
  · exact absurd hg hg2
  · exact absurd hg2 hg
  · rfl

end Go.Proofs.YtiooindlpinjhaaDoor

/- Walks: linking two vertices in a graph that is the callee's own. -/
namespace Go.Proofs.YtiooindlpinjhaaDoor
open Go.RowKit

theorem get_getD {α : Type} (l : List α) (k : Nat) (d : α) (h : k < l.length) : l[k]? = some (l.getD k d) := by simp [h]

structure LK (w wr : World) (base ob c : Nat) (g : List (List Int)) (vals : List Value) : Prop where
  len : vals.length = g.length
  own : wr.ownsRow base 26 1 (.slice (some ⟨ob, 0, none⟩) g.length c) g.length vals
  rows : ∀ j, j < g.length → Nums wr 2 .i64 (vals.getD j undef) (row g j)
  box : Box wr w.heap.size 28 (.slice (some ⟨ob, 0, none⟩) g.length c)
  res : Box wr (w.heap.size + 1) 28 (.slice none 0 0)
  grown : w.grownBy wr (some ob)
  lt : ob < w.heap.size

theorem LK.step {w wr w2 : World} {base ob c : Nat} {g : List (List Int)} {vals : List Value} (h : LK w wr base ob c g vals) (hb : Below wr.heap.size wr w2) {rv : Value} {s : List Int} (hn : Nums w2 2 .i64 rv s) {u : Nat} (hu : u < g.length) :
    LK w (w2.setCell ⟨ob, u, none⟩ rv) base ob c (g.set u s) (vals.set u rv) := by
  have ho := ownsRow_below h.own hb
  obtain ⟨ho2, hg2⟩ := ho.stored u rv
  have hl := h.lt
  refine ⟨by simp [h.len], by rw [List.length_set]; exact ho2, fun j hj => ?_, ?_, ?_, grown_trans (grown_trans h.grown (grown_of_below hb _)) hg2, hl⟩
  · rw [List.length_set] at hj
    rw [row_set _ _ _ _ hu]
    by_cases e : j = u
    · subst e
      rw [if_pos rfl]
      have : (vals.set j rv).getD j undef = rv := by simp [h.len, hj]
      rw [this]
      exact hn.other ho hg2 (by decide)
    · rw [if_neg e]
      have : (vals.set u rv).getD j undef = vals.getD j undef := by simp [show ¬ u = j from fun q => e q.symm]
      rw [this]
      exact ((h.rows j hj).below hb).other ho hg2 (by decide)
  · rw [List.length_set]
    exact (h.box.keep hb).setOther (by show w.heap.size ≠ ob; omega) _
  · exact (h.res.keep hb).setOther (by show w.heap.size + 1 ≠ ob; omega) _

set_option maxRecDepth 100000 in
set_option maxHeartbeats 4000000 in
theorem l1Link_any (p : Option Addr) (c : Nat) (g : List (List Int)) (y z : Int) (u k base : Nat) (hy : y = u) (hz : z = k) (hu : u < g.length) (hk : k < g.length) (hr : ∀ j, j < g.length → (row g j).length ≤ 1000) (w : World)
    (hs : SG w base (.agg #[.slice p g.length c]) g) :
    Calls Tryd.prog 106 #[.agg #[.slice p g.length c], .int .i64 y, .int .i64 z] w fun e w' => e = .returned (.agg #[.slice p g.length c]) ∧ SG w' base (.agg #[.slice p g.length c]) (linkL g u k) ∧ w.grownBy w' (Value.slice p g.length c).ownBlock := by
  subst hy; subst hz
  obtain ⟨_, vals, h1, hl, ho, hrows⟩ := hs
  cases h1
  obtain ⟨ob, rfl⟩ : ∃ ob, p = some ⟨ob, 0, none⟩ := by
    rcases ho.2 with ⟨_, h0⟩ | ⟨b, cc, _, h1, _⟩
    · omega
    · simp only [Value.slice.injEq] at h1
      exact ⟨b, h1.1⟩
  have hlt := (ho.lt ob rfl).2
  have hbb := below_alloc2 w (.cells #[.slice (some ⟨ob, 0, none⟩) g.length c] 28) (.cells #[.slice none 0 0] 28)
  have START : Hid (LK w ((w.alloc (.cells #[.slice (some ⟨ob, 0, none⟩) g.length c] 28)).alloc (.cells #[.slice none 0 0] 28)) base ob c g vals) := Lib.hid
    ⟨hl, ownsRow_below ho hbb, fun j hj => (hrows j hj).below hbb, (Box.new _ _ _).alloc _, by have := Box.new (w.alloc (.cells #[.slice (some ⟨ob, 0, none⟩) g.length c] 28)) (.slice none 0 0) 28; rw [size_alloc] at this; exact this, grown_of_below hbb _, hlt⟩
  have HR := Lib.hid hr
  clear hl ho hrows hbb hr
  go_enter Tryd.func106, Tryd.ntmps106
  go_upto_region 1 with fail
  generalize hW : (w.alloc (.cells #[.slice (some ⟨ob, 0, none⟩) g.length c] 28)).alloc (.cells #[.slice none 0 0] 28) = W at *
  clear hW
  obtain ⟨bc, bf, _, _⟩ := START.out.box
  obtain ⟨rp, rc, hrs, _⟩ := (START.out.rows u hu).shape
  have hcu := START.out.own.cellAt u (by omega)
  have hv0 := get_getD vals u undef (by rw [START.out.len]; exact hu)
  rw [hv0, hrs] at hcu
  have hnu := Lib.hid (START.out.rows u hu)
  rw [hrs] at hnu
  have hru := HR.out u hu
  clear hv0 hrs
  go_cut [] (fun wx => ∃ rv, LK w wx base ob c (g.set u (intoL (row g u) k)) (vals.set u rv))
  case first =>
    go_region_law (first | (go_simp; go_at_call 149; refine (l1Into_any _ (row g u) k (by omega) _ (hnu.out.below (below_dN (Below.refl _ _) 1))).mono ?_; rintro e w2 ⟨rv, rfl, hn2, hb2⟩; obtain ⟨rvp, rvc, rfl, _⟩ := hn2.shape; have hb2' : Below W.heap.size W w2 := (below_dN (Below.refl _ _) 1).trans hb2; have hf2 := (ownsRow_below START.out.own hb2').frozenAt u; have hc2 := hb2'.at' hcu; have hbc2 := hb2'.at' bc))
    all_goals go_wp2
    all_goals go_meet
    all_goals exact ⟨_, START.out.step hb2' hn2 hu⟩
  case rest =>
    obtain ⟨rv0, hlk⟩ := hcut
    have HL := Lib.hid hlk
    have hk' : k < (g.set u (intoL (row g u) k)).length := by simpa using hk
    obtain ⟨bc, bf, _, _⟩ := hlk.box
    obtain ⟨rp, rc, hrs, _⟩ := (hlk.rows k hk').shape
    have hcu := hlk.own.cellAt k (by omega)
    have hv0 := get_getD (vals.set u rv0) k undef (by rw [hlk.len]; exact hk')
    rw [hv0, hrs] at hcu
    have hnu := Lib.hid (hlk.rows k hk')
    rw [hrs] at hnu
    have hl1 : (g.set u (intoL (row g u) k)).length = g.length := by simp
    have hru : (row (g.set u (intoL (row g u) k)) k).length ≤ 2000 := by
      rw [row_set _ _ _ _ hu]
      split
      · have := intoL_length (row g u) k; have := HR.out u hu; omega
      · have := HR.out k hk; omega
    rw [hl1] at bc
    clear hv0 hrs hlk
    generalize hr1 : row (g.set u (intoL (row g u) k)) k = r1 at hru hcu hnu
    go_upto_region 2 with fail
    go_cut [] (fun wx => ∃ rv, LK w wx base ob c (linkL g u k) ((vals.set u rv0).set k rv))
    case first =>
      go_region_law (first | (go_simp; go_at_call 149; refine (l1Into_any _ r1 u (by omega) _ (hnu.out.below (below_dN (Below.refl _ _) 1))).mono ?_; rintro e w2 ⟨rv, rfl, hn2, hb2⟩; obtain ⟨rvp, rvc, rfl, _⟩ := hn2.shape; have hb2' : Below wc.heap.size wc w2 := (below_dN (Below.refl _ _) 1).trans hb2; have hf2 := (ownsRow_below HL.out.own hb2').frozenAt k; have hc2 := hb2'.at' hcu; have hbc2 := hb2'.at' bc))
      all_goals go_wp2
      all_goals go_meet
      all_goals exact ⟨_, by rw [show linkL g u k = (g.set u (intoL (row g u) k)).set k (intoL r1 u) from by unfold linkL; rw [hr1]]; exact HL.out.step hb2' hn2 hk'⟩
    case rest =>
      obtain ⟨rv1, hlk⟩ := hcut
      have HL2 := Lib.hid hlk
      obtain ⟨bc, bf, _, _⟩ := hlk.box
      obtain ⟨k2c, k2f, _⟩ := hlk.res
      rw [linkL_length] at bc
      clear hlk
      go_wp2
      refine bodyPost_ret (v := .agg #[.slice (some ⟨ob, 0, none⟩) g.length c]) (by simp [results, Tryd.results106, go_sem, k2c]) rfl ⟨rfl, ⟨_, _, rfl, HL2.out.len, ?_, fun j hj => ?_⟩, ?_⟩
      · exact ownsRow_setBox (by have := HL2.out.own; rw [linkL_length] at this ⊢; exact this) HL2.out.res (by decide) _
      · exact (HL2.out.rows j hj).setBox HL2.out.res (by decide) _
      · have hlt' := HL2.out.lt
        refine ⟨HL2.out.grown.os, HL2.out.grown.tape, HL2.out.grown.output, by have := HL2.out.grown.size; simpa [World.setCell] using this, fun b hb hne => ?_⟩
        rw [Below.heap_setCell _ _ _ _ (by show b ≠ w.heap.size + 1; omega)]
        exact HL2.out.grown.block b hb hne

end Go.Proofs.YtiooindlpinjhaaDoor
