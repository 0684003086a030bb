/- Plain: the program's search for the least loop. -/
import Derived.Test.YtkppbmfliejnmaaDoorLpQ14
import Derived.Test.YtkppbmfliejnmaaDoorLpQ15
import Derived.Test.YtkppbmfliejnmaaDoorLpQ7
namespace Go.Proofs.YtkppbmfliejnmaaDoor

/-! ### The program's search -/
/-- A way is gone on to a loop by these. -/
def Cmp (n : Nat) (E : Nat → Nat → Bool) (P u : List Nat) : Prop := (∀ x ∈ u, x < n) ∧ (P ++ u).Nodup ∧ Chn E (P ++ u) ∧ E ((P ++ u).getLastD 0) (P.headD 0) = true
/-- It can go on with v. -/
def onL (E : Nat → Nat → Bool) (P : List Nat) (v : Nat) : Bool := E (P.getLastD 0) v && decide (v ∉ P)
def lpF (n : Nat) (E : Nat → Nat → Bool) : Nat → List Nat → Option (List Nat)
  | 0, P => if E (P.getLastD 0) (P.headD 0) = true then some P else none
  | r + 1, P => (List.range n).findSome? fun v => if onL E P v = true then lpF n E r (P ++ [v]) else none
def lpTo (n : Nat) (E : Nat → Nat → Bool) (r : Nat) (P : List Nat) (v : Nat) : Option (List Nat) := (List.range v).findSome? fun v => if onL E P v = true then lpF n E r (P ++ [v]) else none
theorem lpTo_zero (n : Nat) (E : Nat → Nat → Bool) (r : Nat) (P : List Nat) : lpTo n E r P 0 = none := rfl
theorem lpTo_all (n : Nat) (E : Nat → Nat → Bool) (r : Nat) (P : List Nat) : lpTo n E r P n = lpF n E (r + 1) P := rfl
theorem lpTo_step {n : Nat} {E : Nat → Nat → Bool} {r : Nat} {P : List Nat} {v : Nat} (h : lpTo n E r P v = none) : lpTo n E r P (v + 1) = if onL E P v = true then lpF n E r (P ++ [v]) else none := by
  unfold lpTo at h ⊢
  rw [List.range_succ, List.findSome?_append, h]
  simp
theorem lpTo_stop {n : Nat} {E : Nat → Nat → Bool} {r : Nat} {P L : List Nat} {v u : Nat} (h : lpTo n E r P v = some L) (hu : v ≤ u) : lpTo n E r P u = some L := by
  induction u with
  | zero => obtain rfl : v = 0 := by omega
            exact h
  | succ u ih =>
    by_cases e : v = u + 1
    · rw [← e]; exact h
    · have := ih (by omega)
      unfold lpTo at this ⊢
      rw [List.range_succ, List.findSome?_append, this]
      rfl
theorem snoc_last (P : List Nat) (v : Nat) : (P ++ [v]).getLastD 0 = v := by simp [List.getLastD_eq_getLast?]
theorem snoc_head {P : List Nat} (h : P ≠ []) (v : Nat) : (P ++ [v]).headD 0 = P.headD 0 := by
  cases P with
  | nil => exact absurd rfl h
  | cons a l => rfl
theorem app_head {P : List Nat} (h : P ≠ []) (u : List Nat) : (P ++ u).headD 0 = P.headD 0 := by
  cases P with
  | nil => exact absurd rfl h
  | cons a l => rfl
theorem cmp_cons {n : Nat} {E : Nat → Nat → Bool} {P : List Nat} {v : Nat} {u : List Nat} (hP : P ≠ []) : Cmp n E P (v :: u) ↔ v < n ∧ Cmp n E (P ++ [v]) u := by
  unfold Cmp
  rw [List.append_assoc, List.singleton_append, snoc_head hP]
  constructor
  · rintro ⟨h1, h2⟩; exact ⟨h1 v (by simp), fun x hx => h1 x (by simp [hx]), h2⟩
  · rintro ⟨h0, h1, h2⟩
    exact ⟨fun x hx => by
      rcases List.mem_cons.1 hx with rfl | hx
      · exact h0
      · exact h1 x hx, h2⟩
theorem cmp_on {n : Nat} {E : Nat → Nat → Bool} {P : List Nat} {v : Nat} {u : List Nat} (hP : P ≠ []) (h : Cmp n E (P ++ [v]) u) : onL E P v = true := by
  obtain ⟨_, h2, h3, _⟩ := h
  have hn : (P ++ [v]).Nodup := (List.nodup_append.1 h2).1
  have hc : Chn E (P ++ [v]) := by
    have := chn_take h3 (P ++ [v]).length
    rwa [List.take_left'] at this
    rfl
  have h4 := ((chn_snoc P v).1 hc).2.resolve_left hP
  have h5 : v ∉ P := fun hm => (List.nodup_append.1 hn).2.2 v hm v (by simp) rfl
  unfold onL
  rw [h4, decide_eq_true h5]
  rfl
theorem lpF_spec {n : Nat} {E : Nat → Nat → Bool} : ∀ (r : Nat) (P : List Nat), P ≠ [] → P.Nodup → Chn E P →
    (∀ L, lpF n E r P = some L → ∃ u, L = P ++ u ∧ u.length = r ∧ Cmp n E P u ∧ ∀ u', u'.length = r → Cmp n E P u' → ¬ lexL u' u) ∧ (lpF n E r P = none → ∀ u', u'.length = r → ¬ Cmp n E P u')
  | 0, P, h0, hn, hc => by
    rw [lpF]
    refine ⟨fun L h => ?_, fun h u' hu hC => ?_⟩
    · by_cases e : E (P.getLastD 0) (P.headD 0) = true
      · rw [if_pos e] at h
        cases h
        exact ⟨[], by simp, rfl, ⟨by simp, by simpa using hn, by simpa using hc, by simpa using e⟩, fun u' hu _ => by
          rw [List.length_eq_zero_iff.1 hu]; exact fun h => h⟩
      · rw [if_neg e] at h; cases h
    · rw [List.length_eq_zero_iff.1 hu] at hC
      have := hC.2.2.2
      rw [List.append_nil] at this
      rw [if_pos this] at h; cases h
  | r + 1, P, h0, hn, hc => by
    have hne : ∀ v, P ++ [v] ≠ [] := fun v => by simp
    have hon : ∀ v, onL E P v = true → (P ++ [v]).Nodup ∧ Chn E (P ++ [v]) := fun v h => by
      unfold onL at h
      rw [Bool.and_eq_true, decide_eq_true_eq] at h
      refine ⟨List.nodup_append.2 ⟨hn, by simp, fun a ha b hb e => h.2 (by
        obtain rfl : b = v := by simpa using hb
        exact e ▸ ha)⟩, (chn_snoc P v).2 ⟨hc, .inr h.1⟩⟩
    rw [lpF]
    refine ⟨fun L h => ?_, fun h u' hu hC => ?_⟩
    · rw [List.findSome?_eq_some_iff] at h
      obtain ⟨l1, v, l2, e1, e2, e3⟩ := h
      by_cases hv : onL E P v = true
      · rw [if_pos hv] at e2
        obtain ⟨a1, a2⟩ := hon v hv
        obtain ⟨u, rfl, k2, k3, k4⟩ := (lpF_spec r (P ++ [v]) (hne v) a1 a2).1 L e2
        have hvn : v < n := List.mem_range.1 (by rw [e1]; simp)
        refine ⟨v :: u, by simp, by simp [k2], (cmp_cons h0).2 ⟨hvn, k3⟩, fun u' hu hC => ?_⟩
        cases u' with
        | nil => simp at hu
        | cons v' w' =>
          obtain ⟨hv', hC'⟩ := (cmp_cons h0).1 hC
          have hon' := cmp_on h0 hC'
          rintro (hlt | ⟨rfl, hlex⟩)
          · have hm : v' ∈ l1 := by
              have hm : v' ∈ List.range n := List.mem_range.2 hv'
              rw [e1] at hm
              have hp : (l1 ++ v :: l2).Pairwise (· < ·) := by rw [← e1]; exact List.pairwise_lt_range
              rcases List.mem_append.1 hm with hm | hm
              · exact hm
              · rcases List.mem_cons.1 hm with rfl | hm
                · omega
                · have := (List.pairwise_cons.1 (List.pairwise_append.1 hp).2.1).1 v' hm
                  omega
            have h6 := e3 v' hm
            rw [if_pos hon'] at h6
            obtain ⟨b1, b2⟩ := hon v' hon'
            exact (lpF_spec r (P ++ [v']) (hne v') b1 b2).2 h6 w' (by simpa using hu) hC'
          · exact k4 w' (by simpa using hu) hC' hlex
      · rw [if_neg hv] at e2; cases e2
    · rw [List.findSome?_eq_none_iff] at h
      cases u' with
      | nil => simp at hu
      | cons v' w' =>
        obtain ⟨hv', hC'⟩ := (cmp_cons h0).1 hC
        have hon' := cmp_on h0 hC'
        have h6 := h v' (List.mem_range.2 hv')
        rw [if_pos hon'] at h6
        obtain ⟨b1, b2⟩ := hon v' hon'
        exact (lpF_spec r (P ++ [v']) (hne v') b1 b2).2 h6 w' (by simpa using hu) hC'
/-- From a vertex that can be gone on to a loop the start is not far. -/
theorem cmp_near {n : Nat} {E : Nat → Nat → Bool} (hs : ∀ x y, E x y = true → E y x = true) {P : List Nat} {v : Nat} {u : List Nat} (hP : P ≠ []) (hPn : ∀ x ∈ P, x < n) (hv : v < n) (h : Cmp n E (P ++ [v]) u) : LW E (fun x => x < n) (P.headD 0) (u.length + 1) v := by
  obtain ⟨h1, h2, h3, h4⟩ := h
  rw [snoc_head hP] at h4
  have hh : P.headD 0 < n := by
    cases P with
    | nil => exact absurd rfl hP
    | cons a l => exact hPn a (by simp)
  -- from v along the rest
  have key : ∀ (w pre : List Nat) (c : Nat), (∀ x ∈ w, x < n) → Chn E (pre ++ c :: w) → E ((pre ++ c :: w).getLastD 0) (P.headD 0) = true → c < n → LW E (fun x => x < n) c (w.length + 1) (P.headD 0) := by
    intro w
    induction w with
    | nil =>
      intro pre c _ _ he hc
      have e : (pre ++ [c]).getLastD 0 = c := snoc_last pre c
      rw [e] at he
      exact .step (.base hc) (.inr he) hh
    | cons d w ih =>
      intro pre c hw hch he hc
      have hd := hw d (by simp)
      have hcd : E c d = true := by
        have := (chn_at _).1 hch pre.length (by simp)
        simpa using this
      have := ih (pre ++ [c]) d (fun x hx => hw x (by simp [hx])) (by simpa using hch) (by simpa using he) hd
      exact this.cons hc (.inr hcd)
  have := key u P v h1 (by simpa using h3) (by simpa using h4) hv
  exact this.sym hs
theorem lpOk_cmp {n : Nat} {E : Nat → Nat → Bool} {v : Nat} {u : List Nat} : LpOk n E (v :: u) ↔ v < n ∧ 2 ≤ u.length ∧ Cmp n E [v] u := by
  constructor
  · rintro ⟨h1, h2, h3, h4, h5⟩
    exact ⟨h5 v (by simp), by simpa using h1, fun x hx => h5 x (by simp [hx]), h2, h3, h4⟩
  · rintro ⟨h0, h1, h2, h3, h4, h5⟩
    exact ⟨by simpa using h1, h3, h4, h5, fun x hx => by
      rcases List.mem_cons.1 hx with rfl | hx
      · exact h0
      · exact h2 x hx⟩
/-- No loop of this length begins so. -/
def NoLp (n : Nat) (E : Nat → Nat → Bool) (long v : Nat) : Prop := lpF n E (long - 1) [v] = none
theorem first_loop {n : Nat} {E : Nat → Nat → Bool} {long v : Nat} {L : List Nat} (h3 : 3 ≤ long) (hv : v < n) (hl : ∀ k, 3 ≤ k → k < long → ∀ x, x < n → NoLp n E k x) (hx : ∀ x, x < v → NoLp n E long x) (h : lpF n E (long - 1) [v] = some L) : LeastLp n E L ∧ L.length = long := by
  have sp := fun k x => lpF_spec (n := n) (E := E) (k - 1) [x] (by simp) (by simp) trivial
  obtain ⟨u, rfl, k2, k3, k4⟩ := (sp long v).1 L h
  refine ⟨⟨(lpOk_cmp (v := v) (u := u)).2 ⟨hv, by omega, k3⟩, fun M hM => ?_⟩, by rw [List.length_append, List.length_singleton]; omega⟩
  cases M with
  | nil => exact fun _ => absurd hM.long (by simp)
  | cons x w =>
    obtain ⟨m1, m2, m3⟩ := lpOk_cmp.1 hM
    rintro (hlt | ⟨he, hlex⟩)
    · have hlt : w.length + 1 < u.length + 1 := by simpa using hlt
      exact (sp (w.length + 1) x).2 (hl (w.length + 1) (by omega) (by omega) x m1) w (by simp) m3
    · have he : w.length = u.length := by simpa using he
      rcases hlex with hlex | ⟨rfl, hlex⟩
      · exact (sp long x).2 (hx x hlex) w (by omega) m3
      · exact k4 w (by omega) m3 hlex
theorem none_loop {n : Nat} {E : Nat → Nat → Bool} (h : ∀ k, 3 ≤ k → k ≤ n → ∀ x, x < n → NoLp n E k x) : ¬ ∃ L, LpOk n E L := by
  rintro ⟨L, hL⟩
  have hlen : L.length ≤ n := nodup_le n L hL.nod hL.inn
  cases L with
  | nil => exact absurd hL.long (by simp)
  | cons x w =>
    obtain ⟨m1, m2, m3⟩ := lpOk_cmp.1 hL
    exact (lpF_spec (n := n) (E := E) w.length [x] (by simp) (by simp) trivial).2 (h (w.length + 1) (by omega) (by simpa using hlen) x m1) w rfl m3

end Go.Proofs.YtkppbmfliejnmaaDoor

/- Plain: what a distance is. -/
namespace Go.Proofs.YtkppbmfliejnmaaDoor

/-! ### Distances -/
/-- The distance of a vertex within a set; -1 where none. -/
def IsD (E : Nat → Nat → Bool) (S : Nat → Prop) (v u : Nat) (d : Int) : Prop := (d = -1 ∧ ∀ k, ¬ LW E S v k u) ∨ ∃ m : Nat, d = m ∧ LW E S v m u ∧ ∀ k, k < m → ¬ LW E S v k u
theorem isD_same {E : Nat → Nat → Bool} {S T : Nat → Prop} (hT : ∀ x, T x → S x) {v u : Nat} {d d' : Int} (h : IsD E T v u d) (h' : IsD E S v u d') : d = d' ↔ ∀ k, LW E S v k u → LW E T v k u := by
  constructor
  · rintro rfl k hk
    rcases h' with ⟨_, h'⟩ | ⟨m, e, h1, h2⟩
    · exact absurd hk (h' k)
    · rcases h with ⟨e2, _⟩ | ⟨m2, e2, h3, _⟩
      · omega
      · obtain rfl : m = m2 := by omega
        exact h3.le (Nat.le_of_not_lt fun hlt => h2 k hlt hk)
  · intro hk
    rcases h with ⟨rfl, h⟩ | ⟨m, rfl, h1, h2⟩ <;> rcases h' with ⟨rfl, h'⟩ | ⟨m', rfl, h3, h4⟩
    · rfl
    · exact absurd (hk _ h3) (h _)
    · exact absurd (h1.mono hT) (h' _)
    · have a := hk _ h3
      have b := h1.mono hT
      have c : ¬ m' < m := fun hlt => h2 _ hlt a
      have d : ¬ m < m' := fun hlt => h4 _ hlt b
      omega
theorem isD_ex (E : Nat → Nat → Bool) (S : Nat → Prop) (v u : Nat) : ∃ d, IsD E S v u d := by
  by_cases h : ∃ k, LW E S v k u
  · obtain ⟨k, hk⟩ := h
    induction k using Nat.strongRecOn with
    | _ k ih =>
      by_cases c : ∃ i, i < k ∧ LW E S v i u
      · obtain ⟨i, h1, h2⟩ := c
        exact ih i h1 h2
      · exact ⟨k, .inr ⟨k, rfl, hk, fun i h1 h2 => c ⟨i, h1, h2⟩⟩⟩
  · exact ⟨-1, .inl ⟨rfl, fun k hk => h ⟨k, hk⟩⟩⟩


end Go.Proofs.YtkppbmfliejnmaaDoor

/- Plain: the modules, in the order of size and of lists. -/
namespace Go.Proofs.YtkppbmfliejnmaaDoor

/-- Two strictly sorted lists with the same members are one. -/
theorem sorted_ext {α : Type} (lt : α → α → Prop) (hirr : ∀ x, ¬ lt x x) (htr : ∀ {x y z}, lt x y → lt y z → lt x z) : ∀ (l m : List α), l.Pairwise lt → m.Pairwise lt → (∀ x, x ∈ l ↔ x ∈ m) → l = m
  | [], [], _, _, _ => rfl
  | [], b :: m, _, _, h => absurd ((h b).2 (by simp)) (by simp)
  | a :: l, [], _, _, h => absurd ((h a).1 (by simp)) (by simp)
  | a :: l, b :: m, hl, hm, h => by
    have hla := List.pairwise_cons.1 hl
    have hmb := List.pairwise_cons.1 hm
    have hab : a = b := by
      rcases List.mem_cons.1 ((h a).1 (by simp)) with e | h1
      · exact e
      · rcases List.mem_cons.1 ((h b).2 (by simp)) with e | h2
        · exact e.symm
        · exact absurd (htr (hla.1 b h2) (hmb.1 a h1)) (hirr a)
    subst hab
    rw [sorted_ext lt hirr htr l m hla.2 hmb.2 fun x => ?_]
    constructor
    · intro hx
      rcases List.mem_cons.1 ((h x).1 (List.mem_cons_of_mem _ hx)) with e | h1
      · subst e
        exact absurd (hla.1 x hx) (hirr x)
      · exact h1
    · intro hx
      rcases List.mem_cons.1 ((h x).2 (List.mem_cons_of_mem _ hx)) with e | h1
      · subst e
        exact absurd (hmb.1 x hx) (hirr x)
      · exact h1

/-- No vertex outside splits the set. -/
def ModN (g : List (List Int)) (s : Nat) : Prop := ∀ v, v < g.length → s.testBit v = false → mask (row g v) &&& s = 0 ∨ mask (row g v) &&& s = s
/-- The sets numbered below k that are modules, sorted. -/
structure MdOn (P : Nat → Prop) (k : Nat) (L : List (List Nat)) : Prop where
  srt : L.Pairwise lessP
  mem : ∀ x, x ∈ L ↔ ∃ s, 1 ≤ s ∧ s < k ∧ P s ∧ x = bitsOf s
theorem mdOn_start (P : Nat → Prop) : MdOn P 1 [] := ⟨by simp, fun x => by
  constructor
  · intro h; simp at h
  · rintro ⟨s, h1, h2, _⟩; omega⟩
theorem mdOn_skip {P : Nat → Prop} {k : Nat} {L : List (List Nat)} (h : MdOn P k L) (hk : ¬ P k) : MdOn P (k + 1) L := ⟨h.srt, fun x => by
  rw [h.mem]
  constructor
  · rintro ⟨s, h1, h2, h3, h4⟩
    exact ⟨s, h1, by omega, h3, h4⟩
  · rintro ⟨s, h1, h2, h3, h4⟩
    by_cases e : s = k
    · subst e; exact absurd h3 hk
    · exact ⟨s, h1, by omega, h3, h4⟩⟩
theorem mdOn_put {P : Nat → Prop} {k i : Nat} {L : List (List Nat)} (h : MdOn P k L) (hk : P k) (h1 : 1 ≤ k) (hk16 : k < 65536) (hi : i ≤ L.length)
    (hhi : ∀ j (hj : j < L.length), i ≤ j → lessP (bitsOf k) L[j]) (hlo : ∀ (h0 : 0 < i), ¬ lessP (bitsOf k) (L[i - 1]'(by omega))) : MdOn P (k + 1) (L.take i ++ [bitsOf k] ++ L.drop i) := by
  have hnew : bitsOf k ∉ L := fun hm => by
    obtain ⟨s, _, h2, _, h4⟩ := (h.mem _).1 hm
    have e : mask (natInts (bitsOf k)) = mask (natInts (bitsOf s)) := by rw [h4]
    rw [mask_bitsOf hk16, mask_bitsOf (by omega)] at e
    omega
  have hlow : ∀ x ∈ L.take i, lessP x (bitsOf k) := by
    intro x hx
    obtain ⟨j, hj, rfl⟩ := List.getElem_of_mem hx
    rw [List.length_take] at hj
    rw [List.getElem_take]
    have h0 : 0 < i := by omega
    have hl := hlo h0
    have hlast : lessP (L[i - 1]'(by omega)) (bitsOf k) := by
      by_cases hc : lessP (L[i - 1]'(by omega)) (bitsOf k)
      · exact hc
      · exact absurd (lessP_tri hl hc ▸ List.getElem_mem _) hnew
    by_cases hji : j = i - 1
    · subst hji; exact hlast
    · exact lessP_trans (List.pairwise_iff_getElem.1 h.srt j (i - 1) (by omega) (by omega) (by omega)) hlast
  have hhigh : ∀ x ∈ L.drop i, lessP (bitsOf k) x := by
    intro x hx
    obtain ⟨j, hj, rfl⟩ := List.getElem_of_mem hx
    rw [List.length_drop] at hj
    rw [List.getElem_drop]
    exact hhi _ (by omega) (by omega)
  refine ⟨?_, fun x => ?_⟩
  · rw [List.append_assoc, List.pairwise_append]
    refine ⟨h.srt.sublist (List.take_sublist _ _), ?_, fun a ha b hb => ?_⟩
    · rw [List.singleton_append, List.pairwise_cons]
      exact ⟨hhigh, h.srt.sublist (List.drop_sublist _ _)⟩
    · rw [List.singleton_append] at hb
      rcases List.mem_cons.1 hb with rfl | hb
      · exact hlow a ha
      · exact lessP_trans (hlow a ha) (hhigh b hb)
  · rw [List.mem_append, List.mem_append, List.mem_singleton]
    have hx : (x ∈ L.take i ∨ x ∈ L.drop i) ↔ x ∈ L := by rw [← List.mem_append, List.take_append_drop]
    constructor
    · intro hh
      have : x = bitsOf k ∨ x ∈ L := by
        rcases hh with (hh | hh) | hh
        · exact .inr (hx.1 (.inl hh))
        · exact .inl hh
        · exact .inr (hx.1 (.inr hh))
      rcases this with rfl | hm
      · exact ⟨k, h1, by omega, hk, rfl⟩
      · obtain ⟨s, a, b, c, d⟩ := (h.mem x).1 hm
        exact ⟨s, a, by omega, c, d⟩
    · rintro ⟨s, a, b, c, d⟩
      by_cases e : s = k
      · subst e; exact .inl (.inr d)
      · rcases hx.2 ((h.mem x).2 ⟨s, a, by omega, c, d⟩) with hh | hh
        · exact .inl (.inl hh)
        · exact .inr hh
theorem mdOn_det {P : Nat → Prop} {k : Nat} {L M : List (List Nat)} (h : MdOn P k L) (h2 : MdOn P k M) : L = M :=
  sorted_ext lessP lessP_irrefl lessP_trans L M h.srt h2.srt fun x => by rw [h.mem, h2.mem]
/-- What ModulesOf returns. -/
def MdS (g gg : List (List Int)) : Prop := ((GOk g ∧ g.length ≤ 8) ∧ ∃ L, MdOn (ModN g) (2 ^ g.length) L ∧ gg = L.map natInts) ∨ (¬ (GOk g ∧ g.length ≤ 8) ∧ gg = [])
theorem mdS_det {g gg hh : List (List Int)} (h : MdS g gg) (k : MdS g hh) : gg = hh := by
  rcases h with ⟨h1, L, h2, rfl⟩ | ⟨h1, rfl⟩ <;> rcases k with ⟨k1, M, k2, rfl⟩ | ⟨k1, rfl⟩
  · rw [mdOn_det h2 k2]
  · exact absurd h1 k1
  · exact absurd k1 h1
  · rfl
/-- A sorted arrangement of the modules' numbers. -/
theorem mdOn_sorted {P : Nat → Prop} {k : Nat} (hk : k ≤ 65536) {L : List (List Nat)} (hnd : L.Nodup) (hs : L.Pairwise fun x y => ¬ lessP y x) (hm : ∀ x, x ∈ L ↔ ∃ s, 1 ≤ s ∧ s < k ∧ P s ∧ x = bitsOf s) : MdOn P k L := by
  refine ⟨?_, hm⟩
  have hb := hnd.and hs
  exact hb.imp fun {a b} hab => by
    by_cases hc : lessP a b
    · exact hc
    · exact absurd (lessP_tri hc hab.2) hab.1

end Go.Proofs.YtkppbmfliejnmaaDoor
