/- Plain: degrees; a trail along all edges; one can always go on (Fleury). -/
import Derived.Test.YtfphapcgjlhieaaDoorGtQ25
namespace Go.Proofs.YtfphapcgjlhieaaDoor

def degN (n : Nat) (E : Nat → Nat → Bool) (v : Nat) : Nat := (List.range n).countP (E v)
def oddV (n : Nat) (E : Nat → Nat → Bool) (v : Nat) : Prop := degN n E v % 2 = 1
theorem sum_add2 (f g : Nat → Nat) : ∀ C : List Nat, (C.map fun v => f v + g v).sum = (C.map f).sum + (C.map g).sum
  | [] => rfl
  | a :: C => by
    have := sum_add2 f g C
    simp only [List.map_cons, List.sum_cons, this]
    omega
theorem sum_ite (p : Nat → Bool) : ∀ C : List Nat, (C.map fun v => if p v = true then 1 else 0).sum = C.countP p
  | [] => rfl
  | a :: C => by
    have := sum_ite p C
    simp only [List.map_cons, List.sum_cons, this, List.countP_cons]
    omega
theorem deg_sum_even {E : Nat → Nat → Bool} (hs : ∀ r j, E r j = true → E j r = true) (hi : ∀ r, E r r = false) : ∀ C : List Nat, (C.map fun v => C.countP (E v)).sum % 2 = 0
  | [] => rfl
  | a :: C => by
    have ih := deg_sum_even hs hi C
    have e1 : (C.map fun v => (a :: C).countP (E v)) = C.map fun v => C.countP (E v) + (if E v a = true then 1 else 0) := by
      refine List.map_congr_left fun v _ => ?_
      rw [List.countP_cons]
    have e2 := sum_add2 (fun v => C.countP (E v)) (fun v => if E v a = true then 1 else 0) C
    have e3 := sum_ite (fun v => E v a) C
    have e4 : C.countP (fun v => E v a) = C.countP (E a) := List.countP_congr fun v _ => ⟨fun h => hs _ _ h, fun h => hs _ _ h⟩
    have e5 : (a :: C).countP (E a) = C.countP (E a) := by rw [List.countP_cons, hi a]; simp
    simp only [List.map_cons, List.sum_cons, e1, e5]
    rw [e2, e3, e4]
    omega
theorem sum_parity (d : Nat → Nat) : ∀ C : List Nat, (C.map d).sum % 2 = (C.countP fun v => d v % 2 == 1) % 2
  | [] => rfl
  | a :: C => by
    have ih := sum_parity d C
    simp only [List.map_cons, List.sum_cons, List.countP_cons]
    have h01 : d a % 2 = 0 ∨ d a % 2 = 1 := by omega
    rcases h01 with h | h
    · simp only [h]; simp; omega
    · simp only [h]; simp; omega
/-- In a closed part the odd ones are even in number. -/
theorem odd_even {n : Nat} {E : Nat → Nat → Bool} (hs : ∀ r j, E r j = true → E j r = true) (hi : ∀ r, E r r = false) (q : Nat → Bool) (hq : ∀ x y, y < n → q x = true → E x y = true → q y = true) :
    (((List.range n).filter q).countP fun v => degN n E v % 2 == 1) % 2 = 0 := by
  have h1 := deg_sum_even hs hi ((List.range n).filter q)
  have e : (((List.range n).filter q).map fun v => ((List.range n).filter q).countP (E v)) = ((List.range n).filter q).map (degN n E) := by
    refine List.map_congr_left fun v hv => ?_
    have hv2 := (List.mem_filter.1 hv).2
    rw [List.countP_filter]
    unfold degN
    refine List.countP_congr fun x hx => ?_
    have hx' : x < n := by simpa using hx
    constructor
    · intro h; exact (Bool.and_eq_true_iff.1 h).1
    · intro h; exact Bool.and_eq_true_iff.2 ⟨h, hq v x hx' hv2 h⟩
  rw [e, sum_parity] at h1
  exact h1
theorem countP_none {p : Nat → Bool} : ∀ {l : List Nat}, (∀ y ∈ l, p y = true → False) → l.countP p = 0 := fun h => List.countP_eq_zero.2 fun y hy hp => h y hy hp
theorem countP_one {p : Nat → Bool} {x : Nat} : ∀ {l : List Nat}, l.Nodup → x ∈ l → p x = true → (∀ y ∈ l, p y = true → y = x) → l.countP p = 1
  | [], _, hx, _, _ => by simp at hx
  | a :: l, hn, hx, hp, hu => by
    rw [List.countP_cons]
    rw [List.nodup_cons] at hn
    by_cases e : a = x
    · subst e
      have : l.countP p = 0 := countP_none fun y hy hpy => by
        have := hu y (by simp [hy]) hpy
        subst this
        exact hn.1 hy
      simp [this, hp]
    · have hx2 : x ∈ l := by
        rcases List.mem_cons.1 hx with h | h
        · exact absurd h.symm e
        · exact h
      have := countP_one hn.2 hx2 hp fun y hy => hu y (by simp [hy])
      have ha : ¬ p a = true := fun h => e (hu a (by simp) h)
      simp [this, ha]
theorem countP_cut {f : Nat → Bool} {q : Nat} : ∀ {l : List Nat}, l.Nodup → q ∈ l → f q = true → l.countP f = l.countP (fun j => f j && !(j == q)) + 1
  | [], _, hx, _ => by simp at hx
  | a :: l, hn, hx, hp => by
    rw [List.nodup_cons] at hn
    rw [List.countP_cons, List.countP_cons]
    by_cases e : a = q
    · subst e
      have : l.countP (fun j => f j && !(j == a)) = l.countP f := List.countP_congr fun y hy => by
        have : y ≠ a := fun h => hn.1 (h ▸ hy)
        simp [this]
      rw [this]
      simp [hp]
    · have hx2 : q ∈ l := by
        rcases List.mem_cons.1 hx with h | h
        · exact absurd h.symm e
        · exact h
      have := countP_cut hn.2 hx2 hp
      rw [this]
      simp only [show (a == q) = false from beq_eq_false_iff_ne.2 e, Bool.not_false, Bool.and_true]
      omega
theorem degN_cut_p {n : Nat} {E : Nat → Nat → Bool} {p q : Nat} (hq : q < n) (hpq : p ≠ q) (h : E p q = true) : degN n E p = degN n (cutE E p q) p + 1 := by
  unfold degN
  rw [countP_cut List.nodup_range (List.mem_range.2 hq) h]
  congr 1
  refine List.countP_congr fun x _ => ?_
  simp [cutE, hpq]
theorem degN_cut_q {n : Nat} {E : Nat → Nat → Bool} {p q : Nat} (hp : p < n) (hpq : p ≠ q) (h : E q p = true) : degN n E q = degN n (cutE E p q) q + 1 := by
  unfold degN
  rw [countP_cut List.nodup_range (List.mem_range.2 hp) h]
  congr 1
  refine List.countP_congr fun x _ => ?_
  have : q ≠ p := fun e => hpq e.symm
  simp [cutE, this]
theorem degN_cut_o {n : Nat} {E : Nat → Nat → Bool} {p q x : Nat} (hp : x ≠ p) (hq : x ≠ q) : degN n (cutE E p q) x = degN n E x := by
  unfold degN
  refine List.countP_congr fun y _ => ?_
  simp [cutE, hp, hq]
theorem degN_cut_le {n : Nat} {E : Nat → Nat → Bool} {p q : Nat} (x : Nat) : degN n (cutE E p q) x ≤ degN n E x := by
  unfold degN
  refine List.countP_mono_left fun y _ h => ?_
  exact (Bool.and_eq_true_iff.1 h).1
theorem degN_pos {n : Nat} {E : Nat → Nat → Bool} {v : Nat} : 0 < degN n E v ↔ ∃ u, u < n ∧ E v u = true := by
  unfold degN
  rw [List.countP_pos_iff]
  simp

def OddC (n : Nat) (E : Nat → Nat → Bool) (v : Nat) : Prop := ∀ x y, x < n → y < n → oddV n E x → oddV n E y → x ≠ v → y ≠ v → x = y
theorem no_odd {n : Nat} {E : Nat → Nat → Bool} (hs : ∀ r j, E r j = true → E j r = true) (hi : ∀ r, E r r = false) {v : Nat} (h : OddC n E v) (hv : ¬ oddV n E v) : ∀ x, x < n → ¬ oddV n E x := by
  intro x hx hox
  have h0 := odd_even hs hi (fun _ => true) (n := n) (fun _ _ _ _ _ => rfl)
  have hxv : x ≠ v := fun e => hv (e ▸ hox)
  have h1 : ((List.range n).filter fun _ => true).countP (fun v => degN n E v % 2 == 1) = 1 := by
    refine countP_one (x := x) (List.nodup_range.filter _) (by simp [hx]) (by unfold oddV at hox; simpa using hox) fun y hy hoy => ?_
    have hyn : y < n := by simpa using hy
    have hoy' : oddV n E y := by unfold oddV; simpa using hoy
    exact (h x y hx hyn hox hoy' hxv (fun e => hv (e ▸ hoy'))).symm
  omega

/-- From v one can go along each edge once. -/
def Tr (n : Nat) (E : Nat → Nat → Bool) (v : Nat) : Prop := (∀ x, x < n → 0 < degN n E x → Rch E (· ∈ List.range n) v x) ∧ OddC n E v

theorem oddC_cut {n : Nat} {E : Nat → Nat → Bool} (hs : ∀ r j, E r j = true → E j r = true) (hi : ∀ r, E r r = false) {v u : Nat} (hv : v < n) (hu : u < n) (hE : E v u = true) (h : OddC n E v) : OddC n (cutE E v u) u := by
  have hvu : v ≠ u := fun e => by subst e; rw [hi] at hE; exact absurd hE (by decide)
  have hd1 := degN_cut_p hu hvu hE
  intro x y hx hy hox hoy hxu hyu
  by_cases e1 : x = v
  · subst e1
    by_cases e2 : y = x
    · exact e2.symm
    · exfalso
      have hnv : ¬ oddV n E x := by unfold oddV at hox ⊢; omega
      refine no_odd hs hi h hnv y hy ?_
      unfold oddV at hoy ⊢
      rw [degN_cut_o e2 hyu] at hoy
      exact hoy
  · by_cases e2 : y = v
    · subst e2
      exfalso
      have hnv : ¬ oddV n E y := by unfold oddV at hoy ⊢; omega
      refine no_odd hs hi h hnv x hx ?_
      unfold oddV at hox ⊢
      rw [degN_cut_o e1 hxu] at hox
      exact hox
    · unfold oddV at hox hoy
      rw [degN_cut_o e1 hxu] at hox
      rw [degN_cut_o e2 hyu] at hoy
      exact h x y hx hy hox hoy e1 e2

/-- What is reached with the edge is reached without it, from one of its ends. -/
theorem rch_two {n : Nat} {E : Nat → Nat → Bool} {v u : Nat} : ∀ x, Rch E (· ∈ List.range n) v x → Rch (cutE E v u) (· ∈ List.range n) u x ∨ Rch (cutE E v u) (· ∈ List.range n) v x := by
  refine rch_closed (.inr .base) fun x y hT hE hy => ?_
  by_cases e1 : x = v ∧ y = u
  · exact .inl (e1.2 ▸ .base)
  · by_cases e2 : x = u ∧ y = v
    · exact .inr (e2.2 ▸ .base)
    · have hc : cutE E v u x y = true := by
        simp only [cutE, hE, Bool.true_and, Bool.not_eq_true', Bool.or_eq_false_iff, Bool.and_eq_false_iff, beq_eq_false_iff_ne]
        refine ⟨?_, ?_⟩
        · by_cases e : x = v
          · exact .inr fun e' => e1 ⟨e, e'⟩
          · exact .inl e
        · by_cases e : x = u
          · exact .inr fun e' => e2 ⟨e, e'⟩
          · exact .inl e
      rcases hT with h | h
      · exact .inl (.step h hc hy)
      · exact .inr (.step h hc hy)

theorem tr_go {n : Nat} {E : Nat → Nat → Bool} (hs : ∀ r j, E r j = true → E j r = true) (hi : ∀ r, E r r = false) {v : Nat} (hv : v < n) (hd : 0 < degN n E v) (h : Tr n E v) :
    ∃ u, u < n ∧ E v u = true ∧ Tr n (cutE E v u) u := by
  have hR : ∀ z, z < n → (z ∈ List.range n) := fun z hz => List.mem_range.2 hz
  by_cases hnb : ∃ u, u < n ∧ E v u = true ∧ Rch (cutE E v u) (· ∈ List.range n) u v
  · obtain ⟨u, hu, hE, hr⟩ := hnb
    refine ⟨u, hu, hE, fun x hx hdx => ?_, oddC_cut hs hi hv hu hE h.2⟩
    have h1 := h.1 x hx (Nat.lt_of_lt_of_le hdx (degN_cut_le x))
    rcases rch_two (u := u) x h1 with h2 | h2
    · exact h2
    · exact rch_trans hr h2
  · have hbr : ∀ u, u < n → E v u = true → ¬ Rch (cutE E v u) (· ∈ List.range n) u v := fun u hu hE hr => hnb ⟨u, hu, hE, hr⟩
    obtain ⟨u, hu, hE⟩ := degN_pos.1 hd
    -- beyond a bridge an odd one lies, reached without v
    have key : ∀ u, u < n → E v u = true → ∃ x, x < n ∧ oddV n E x ∧ x ≠ v ∧ Rch E (fun z => z ∈ List.range n ∧ z ≠ v) u x := by
      intro u hu hE
      have hvu : v ≠ u := fun e => by subst e; rw [hi] at hE; exact absurd hE (by decide)
      have hb := hbr u hu hE
      have hs' : ∀ r j, cutE E v u r j = true → cutE E v u j r = true := cutE_sym hs v u
      have hoe := odd_even (n := n) hs' (cutE_irr hi v u) (fun x => dec (Rch (cutE E v u) (· ∈ List.range n) u x)) (fun x y hy hx hxy => dec_iff.2 (.step (dec_iff.1 hx) hxy (hR y hy)))
      have away : ∀ x, Rch (cutE E v u) (· ∈ List.range n) u x → Rch E (fun z => z ∈ List.range n ∧ z ≠ v) u x := by
        intro x hx
        refine (rch_closed (T := fun x => Rch (cutE E v u) (· ∈ List.range n) u x ∧ Rch E (fun z => z ∈ List.range n ∧ z ≠ v) u x) ⟨.base, .base⟩ (fun a b hab hE2 hb2 => ?_) x hx).2
        have hab2 : Rch (cutE E v u) (· ∈ List.range n) u b := .step hab.1 hE2 hb2
        refine ⟨hab2, .step hab.2 (Bool.and_eq_true_iff.1 hE2).1 ⟨hb2, fun e => hb (e ▸ hab2)⟩⟩
      refine Classical.byContradiction fun hno => ?_
      have hne : ∀ x, x < n → Rch (cutE E v u) (· ∈ List.range n) u x → ¬ oddV n E x := by
        intro x hx hr ho
        exact hno ⟨x, hx, ho, fun e => hb (e ▸ hr), away x hr⟩
      have hd2 := degN_cut_q (n := n) hv hvu (hs _ _ hE)
      have h1 : (((List.range n).filter fun x => dec (Rch (cutE E v u) (· ∈ List.range n) u x)).countP fun z => degN n (cutE E v u) z % 2 == 1) = 1 := by
        refine countP_one (x := u) (List.nodup_range.filter _) (List.mem_filter.2 ⟨hR u hu, dec_true .base⟩) ?_ fun y hy hoy => ?_
        · have := hne u hu .base
          unfold oddV at this
          simp only [beq_iff_eq]
          omega
        · obtain ⟨hy1, hy2⟩ := List.mem_filter.1 hy
          have hyr := dec_iff.1 hy2
          refine Classical.byContradiction fun hyu => ?_
          have hyv : y ≠ v := fun e => hb (e ▸ hyr)
          refine hne y (List.mem_range.1 hy1) hyr ?_
          unfold oddV
          rw [← degN_cut_o hyv hyu]
          simpa using hoy
      omega
    -- so there is but one neighbour
    have one : ∀ u2, u2 < n → E v u2 = true → u2 = u := by
      intro u2 hu2 hE2
      refine Classical.byContradiction fun hne => ?_
      obtain ⟨x, hx, ho, hxv, hr⟩ := key u hu hE
      obtain ⟨x2, hx2, ho2, hxv2, hr2⟩ := key u2 hu2 hE2
      obtain rfl := h.2 x x2 hx hx2 ho ho2 hxv hxv2
      have hvu : u ≠ v := fun e => by subst e; rw [hi] at hE; exact absurd hE (by decide)
      have hvu2 : u2 ≠ v := fun e => by subst e; rw [hi] at hE2; exact absurd hE2 (by decide)
      have h1 : Rch E (fun z => z ∈ List.range n ∧ z ≠ v) u u2 := rch_trans hr (rch_sym hs ⟨hR u2 hu2, hvu2⟩ hr2)
      have h2 : Rch (cutE E v u) (· ∈ List.range n) u u2 := by
        refine (rch_closed (T := fun x => x ≠ v ∧ Rch (cutE E v u) (· ∈ List.range n) u x) ⟨hvu, .base⟩ (fun a b hab hE3 hb3 => ?_) u2 h1).2
        refine ⟨hb3.2, .step hab.2 ?_ hb3.1⟩
        simp [cutE, hE3, hab.1, hb3.2]
      refine hbr u hu hE (.step h2 ?_ (hR v hv))
      simp [cutE, hs _ _ hE2, hvu2, hne]
    refine ⟨u, hu, hE, fun x hx hdx => ?_, oddC_cut hs hi hv hu hE h.2⟩
    have h1 := h.1 x hx (Nat.lt_of_lt_of_le hdx (degN_cut_le x))
    rcases rch_two (u := u) x h1 with h2 | h2
    · exact h2
    · -- v is alone now
      exfalso
      have hal : ∀ y, y < n → cutE E v u v y = true → False := by
        intro y hy hc
        have hE3 := (Bool.and_eq_true_iff.1 hc).1
        have := one y hy hE3
        subst this
        simp [cutE] at hc
      have hxv : x = v := by
        refine rch_closed (T := fun x => x = v) rfl (fun a b hab hc hb => ?_) x h2
        subst hab
        exact absurd hc (fun hc => hal b (List.mem_range.1 hb) hc)
      subst hxv
      obtain ⟨y, hy, hc⟩ := degN_pos.1 hdx
      exact hal y hy hc
/-- One is left in an edge just where any is. -/
theorem tr_left {n : Nat} {E : Nat → Nat → Bool} {v : Nat} (hv : v < n) (h : Tr n E v) : (0 < degN n E v ↔ ∃ x, x < n ∧ 0 < degN n E x) := by
  constructor
  · intro hd; exact ⟨v, hv, hd⟩
  · rintro ⟨x, hx, hd⟩
    have hr := h.1 x hx hd
    by_cases e : x = v
    · exact e ▸ hd
    · have : ∀ x, Rch E (· ∈ List.range n) v x → x = v ∨ 0 < degN n E v := by
        refine rch_closed (.inl rfl) fun a b ha hE hb => ?_
        rcases ha with ha | ha
        · exact .inr (degN_pos.2 ⟨b, List.mem_range.1 hb, ha ▸ hE⟩)
        · exact .inr ha
      rcases this x hr with h1 | h1
      · exact absurd h1 e
      · exact h1

/-- All degrees together. -/
def totN (n : Nat) (E : Nat → Nat → Bool) : Nat := ((List.range n).map (degN n E)).sum
theorem sum_lt_of {f g : Nat → Nat} : ∀ {l : List Nat}, (∀ x ∈ l, f x ≤ g x) → (∃ x ∈ l, f x < g x) → (l.map f).sum < (l.map g).sum
  | [], _, ⟨x, hx, _⟩ => by simp at hx
  | a :: l, h, ⟨x, hx, hlt⟩ => by
    have hle : ∀ {m : List Nat}, (∀ x ∈ m, f x ≤ g x) → (m.map f).sum ≤ (m.map g).sum := by
      intro m
      induction m with
      | nil => intro _; simp
      | cons b m ih =>
        intro hm
        have := ih fun x hx => hm x (by simp [hx])
        have := hm b (by simp)
        simp only [List.map_cons, List.sum_cons]
        omega
    simp only [List.map_cons, List.sum_cons]
    rcases List.mem_cons.1 hx with e | e
    · subst e
      have := hle fun y hy => h y (List.mem_cons_of_mem _ hy)
      omega
    · have := sum_lt_of (fun y hy => h y (List.mem_cons_of_mem _ hy)) ⟨x, e, hlt⟩
      have := h a (by simp)
      omega
theorem totN_cut {n : Nat} {E : Nat → Nat → Bool} {v u : Nat} (hi : ∀ r, E r r = false) (hv : v < n) (hu : u < n) (h : E v u = true) : totN n (cutE E v u) < totN n E := by
  have hvu : v ≠ u := fun e => by subst e; rw [hi] at h; exact absurd h (by decide)
  refine sum_lt_of (fun x _ => degN_cut_le x) ⟨v, List.mem_range.2 hv, ?_⟩
  have := degN_cut_p hu hvu h
  omega
theorem degN_le (n : Nat) (E : Nat → Nat → Bool) (v : Nat) : degN n E v ≤ n := by
  have := List.countP_le_length (p := E v) (l := List.range n)
  simpa [degN] using this
theorem sum_le_mul {f : Nat → Nat} {k : Nat} : ∀ {l : List Nat}, (∀ x ∈ l, f x ≤ k) → (l.map f).sum ≤ l.length * k
  | [], _ => by simp
  | a :: l, h => by
    have := sum_le_mul fun x hx => h x (List.mem_cons_of_mem a hx)
    have := h a (by simp)
    simp only [List.map_cons, List.sum_cons, List.length_cons, Nat.add_mul]
    omega
theorem totN_le {n : Nat} (hn : n ≤ 16) (E : Nat → Nat → Bool) : totN n E ≤ 256 := by
  have h1 : totN n E ≤ (List.range n).length * n := sum_le_mul fun x _ => degN_le n E x
  rw [List.length_range] at h1
  have : n * n ≤ 16 * 16 := Nat.mul_le_mul hn hn
  omega

/-- The next one: the first from which the rest can be gone. -/
noncomputable def nextT (n : Nat) (E : Nat → Nat → Bool) (v : Nat) : Option Nat := (List.range n).find? fun u => E v u && dec (Tr n (cutE E v u) u)
inductive Trl (n : Nat) : (Nat → Nat → Bool) → Nat → List Nat → Prop
  | done (E : Nat → Nat → Bool) (v : Nat) : degN n E v = 0 → Trl n E v []
  | step (E : Nat → Nat → Bool) (v u : Nat) (l : List Nat) : 0 < degN n E v → nextT n E v = some u → Trl n (cutE E v u) u l → Trl n E v (u :: l)
theorem trl_det {n : Nat} {E : Nat → Nat → Bool} {v : Nat} {l : List Nat} (h : Trl n E v l) : ∀ {m : List Nat}, Trl n E v m → l = m := by
  induction h with
  | done E v h0 =>
    intro m hm
    cases hm with
    | done _ _ _ => rfl
    | step _ _ u l h1 _ _ => omega
  | step E v u l h1 h2 _ ih =>
    intro m hm
    cases hm with
    | done _ _ h0 => omega
    | step _ _ u2 l2 _ h3 h4 =>
      rw [h2] at h3
      cases h3
      rw [ih h4]
def TrlOn (n : Nat) (E0 : Nat → Nat → Bool) (v0 : Nat) (pre : List Nat) (E : Nat → Nat → Bool) (v : Nat) : Prop := ∀ l, Trl n E v l → Trl n E0 v0 (pre ++ l)
theorem trlOn_start (n : Nat) (E : Nat → Nat → Bool) (v : Nat) : TrlOn n E v [] E v := fun _ h => h
theorem trlOn_step {n : Nat} {E0 E : Nat → Nat → Bool} {v0 v u : Nat} {pre : List Nat} (h : TrlOn n E0 v0 pre E v) (hd : 0 < degN n E v) (hn : nextT n E v = some u) : TrlOn n E0 v0 (pre ++ [u]) (cutE E v u) u := fun l k => by
  have := h _ (.step E v u l hd hn k)
  simpa using this
theorem trlOn_stop {n : Nat} {E0 E : Nat → Nat → Bool} {v0 v : Nat} {pre : List Nat} (h : TrlOn n E0 v0 pre E v) (hd : degN n E v = 0) : Trl n E0 v0 pre := by
  have := h [] (.done E v hd)
  simpa using this
/-- The first so many are not the next one. -/
def NotNext (n : Nat) (E : Nat → Nat → Bool) (v k : Nat) : Prop := ∀ u, u < k → u < n → E v u = true → ¬ Tr n (cutE E v u) u
theorem next_of {n : Nat} {E : Nat → Nat → Bool} {v u : Nat} (h : NotNext n E v u) (hu : u < n) (hE : E v u = true) (hT : Tr n (cutE E v u) u) : nextT n E v = some u := by
  unfold nextT
  have h1 : (List.range n).find? (fun u => E v u && dec (Tr n (cutE E v u) u)) ≠ none := by
    intro hn
    have := List.find?_eq_none.1 hn u (List.mem_range.2 hu)
    simp [hE, dec_true hT] at this
  obtain ⟨z, hz⟩ := Option.ne_none_iff_exists'.1 h1
  have hzp := List.find?_some hz
  have hzn := List.mem_range.1 (List.mem_of_find?_eq_some hz)
  obtain ⟨hz1, hz2⟩ := Bool.and_eq_true_iff.1 hzp
  have hge : ¬ z < u := fun hlt => h z hlt hzn hz1 (dec_iff.1 hz2)
  have hle : ¬ u < z := by
    intro hlt
    obtain ⟨_, la, lb, heq, hno⟩ := List.find?_eq_some_iff_append.1 hz
    have hum : u ∈ la := by
      have hm : u ∈ la ++ z :: lb := heq ▸ List.mem_range.2 hu
      rcases List.mem_append.1 hm with h1 | h1
      · exact h1
      · have hp : (la ++ z :: lb).Pairwise (· < ·) := heq ▸ List.pairwise_lt_range
        have hp2 := (List.pairwise_append.1 hp).2.1
        rcases List.mem_cons.1 h1 with e | e
        · omega
        · have := (List.pairwise_cons.1 hp2).1 u e
          omega
    have := hno u hum
    simp [hE, dec_true hT] at this
  have : z = u := by omega
  rw [hz, this]
theorem next_some {n : Nat} {E : Nat → Nat → Bool} (hs : ∀ r j, E r j = true → E j r = true) (hi : ∀ r, E r r = false) {v k : Nat} (hv : v < n) (hd : 0 < degN n E v) (h : Tr n E v) (hk : NotNext n E v k) (hnk : ∀ u, k ≤ u → u < n → E v u = false) : False := by
  obtain ⟨u, hu, hE, hT⟩ := tr_go hs hi hv hd h
  rcases Nat.lt_or_ge u k with h1 | h1
  · exact hk u h1 hu hE hT
  · rw [hnk u h1 hu] at hE
    exact absurd hE (by decide)

/-- What both answer. -/
def TrailS (g : List (List Int)) (l : List Int) (ok : Bool) : Prop :=
  (¬ GOk g ∧ l = [] ∧ ok = false) ∨ (GOk g ∧ (∀ v, v < g.length → ¬ Tr g.length (ofG g) v) ∧ l = [] ∧ ok = false) ∨
    (GOk g ∧ ∃ v pre, v < g.length ∧ (∀ u, u < v → ¬ Tr g.length (ofG g) u) ∧ Tr g.length (ofG g) v ∧ Trl g.length (ofG g) v pre ∧ l = natInts (v :: pre) ∧ ok = true)
theorem trailS_det {g : List (List Int)} {l l2 : List Int} {ok ok2 : Bool} (h : TrailS g l ok) (h2 : TrailS g l2 ok2) : l = l2 ∧ ok = ok2 := by
  rcases h with ⟨h0, rfl, rfl⟩ | ⟨h0, h1, rfl, rfl⟩ | ⟨h0, v, pre, hv, hl, hT, htr, rfl, rfl⟩ <;> rcases h2 with ⟨k0, rfl, rfl⟩ | ⟨k0, k1, rfl, rfl⟩ | ⟨k0, v2, pre2, hv2, hl2, hT2, htr2, rfl, rfl⟩
  · exact ⟨rfl, rfl⟩
  · exact ⟨rfl, rfl⟩
  · exact absurd k0 h0
  · exact ⟨rfl, rfl⟩
  · exact ⟨rfl, rfl⟩
  · exact absurd hT2 (h1 v2 hv2)
  · exact absurd h0 k0
  · exact absurd hT (k1 v hv)
  · have e : v = v2 := by
      rcases Nat.lt_trichotomy v v2 with h | h | h
      · exact absurd hT (hl2 v h)
      · exact h
      · exact absurd hT2 (hl v2 h)
    subst e
    rw [trl_det htr htr2]
    exact ⟨rfl, rfl⟩

end Go.Proofs.YtfphapcgjlhieaaDoor
