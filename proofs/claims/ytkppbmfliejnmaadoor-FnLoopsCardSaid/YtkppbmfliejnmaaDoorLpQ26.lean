/- Plain: a contracted edge: nets, vertices, edges, parts. -/
import Derived.Test.YtkppbmfliejnmaaDoorLpQ25
import Derived.Test.YtkppbmfliejnmaaDoorLpQ12
import Derived.Test.YtkppbmfliejnmaaDoorLpQ7
import Derived.Test.YtkppbmfliejnmaaDoorLpQ10
import Derived.Test.YtkppbmfliejnmaaDoorLpQ4
import Derived.Test.YtkppbmfliejnmaaDoorLpQ8
namespace Go.Proofs.YtkppbmfliejnmaaDoor

theorem filter_off {L : List Nat} {b : Nat} (h : b ∉ L) : (L.filter fun v => v != b) = L := List.filter_eq_self.2 fun x hx => by
  rw [bne_iff_ne]
  intro e
  exact h (e ▸ hx)
theorem sum_splitC {L : List Nat} {a : Nat} (f : Nat → Nat) (hn : L.Nodup) (ha : a ∈ L) : (L.map f).sum = f a + ((L.filter fun v => v != a).map f).sum := by
  induction L with
  | nil => cases ha
  | cons x L ih =>
    rw [List.nodup_cons] at hn
    by_cases e : x = a
    · subst e
      rw [List.filter_cons_of_neg (by simp), filter_off hn.1]
      simp
    · have ha' : a ∈ L := (List.mem_cons.1 ha).resolve_left fun h => e h.symm
      rw [List.filter_cons_of_pos (by simpa using e), List.map_cons, List.map_cons, List.sum_cons, List.sum_cons, ih hn.2 ha']
      omega
theorem countP_splitC {L : List Nat} {a : Nat} (p : Nat → Bool) (hn : L.Nodup) (ha : a ∈ L) : L.countP p = (p a).toNat + (L.filter fun v => v != a).countP p := by
  induction L with
  | nil => cases ha
  | cons x L ih =>
    rw [List.nodup_cons] at hn
    by_cases e : x = a
    · subst e
      rw [List.filter_cons_of_neg (by simp), filter_off hn.1, List.countP_cons]
      cases p x <;> simp <;> omega
    · have ha' : a ∈ L := (List.mem_cons.1 ha).resolve_left fun h => e h.symm
      rw [List.filter_cons_of_pos (by simpa using e), List.countP_cons, List.countP_cons, ih hn.2 ha']
      omega
theorem sum_leC {L : List Nat} {f g : Nat → Nat} (h : ∀ x ∈ L, f x ≤ g x) : (L.map f).sum ≤ (L.map g).sum := by
  induction L with
  | nil => exact Nat.le_refl _
  | cons x L ih =>
    rw [List.map_cons, List.map_cons, List.sum_cons, List.sum_cons]
    have h1 := h x (List.mem_cons_self ..)
    have h2 := ih fun y hy => h y (List.mem_cons_of_mem _ hy)
    omega
theorem countP_orC {L : List Nat} {p q r : Nat → Bool} (h : ∀ x ∈ L, p x = true → q x = true ∨ r x = true) : L.countP p ≤ L.countP q + L.countP r := by
  induction L with
  | nil => simp
  | cons x L ih =>
    have h1 := h x (List.mem_cons_self ..)
    have h2 := ih fun y hy => h y (List.mem_cons_of_mem _ hy)
    rw [List.countP_cons, List.countP_cons, List.countP_cons]
    cases hp : p x <;> cases hq : q x <;> cases hr : r x <;> simp_all <;> omega
theorem restN_nodup (n b : Nat) : (restN n b).Nodup := List.Pairwise.filter _ List.nodup_range
theorem restN_length {n b : Nat} (hb : b < n) : (restN n b).length = n - 1 := by
  have h := countP_splitC (fun _ => true) List.nodup_range (List.mem_range.2 hb)
  simp only [List.countP_true, List.length_range, Bool.toNat_true] at h
  unfold restN
  omega
/-! ### What the program's rows are -/
/-- What b has, as far as read, is given to a. -/
def conF (E : Nat → Nat → Bool) (a : Nat) (ws : List Nat) : Nat → Nat → Bool := fun r j => E r j || (r == a && decide (j ∈ ws)) || (j == a && decide (r ∈ ws))
theorem conF_nil (E : Nat → Nat → Bool) (a : Nat) : conF E a [] = E := by
  funext r j
  simp [conF]
theorem conF_snoc {n a v : Nat} {E : Nat → Nat → Bool} {ws : List Nat} (ha : a < n) (hv : v < n) (hav : a ≠ v) : joinL (indN n (conF E a ws)) a v = indN n (conF E a (ws ++ [v])) := by
  refine natList_ext (by rw [joinL_length, indN_length, indN_length]) fun r hr => ?_
  rw [joinL_length, indN_length] at hr
  refine Nat.eq_of_testBit_eq fun j => ?_
  rw [Bool.eq_iff_iff, joinL_testBit (by rw [indN_length]; exact ha) (by rw [indN_length]; exact hv) hav, indN_bit hr, indN_bit hr]
  simp only [conF, Bool.and_eq_true, Bool.or_eq_true, decide_eq_true_eq, List.mem_append, List.mem_singleton, beq_iff_eq]
  constructor
  · rintro (⟨h1, (h2 | ⟨h3, h4⟩) | ⟨h3, h4⟩⟩ | ⟨rfl, rfl⟩ | ⟨rfl, rfl⟩)
    · exact ⟨h1, .inl (.inl h2)⟩
    · exact ⟨h1, .inl (.inr ⟨h3, .inl h4⟩)⟩
    · exact ⟨h1, .inr ⟨h3, .inl h4⟩⟩
    · exact ⟨hv, .inl (.inr ⟨rfl, .inr rfl⟩)⟩
    · exact ⟨ha, .inr ⟨rfl, .inr rfl⟩⟩
  · rintro ⟨h1, (h2 | ⟨h3, h4 | h4⟩) | ⟨h3, h4 | h4⟩⟩
    · exact .inl ⟨h1, .inl (.inl h2)⟩
    · exact .inl ⟨h1, .inl (.inr ⟨h3, h4⟩)⟩
    · exact .inr (.inl ⟨h3, h4⟩)
    · exact .inl ⟨h1, .inr ⟨h3, h4⟩⟩
    · exact .inr (.inr ⟨h4, h3⟩)
/-- The neighbours of b but a. -/
def nbL (n : Nat) (E : Nat → Nat → Bool) (a b : Nat) : List Nat := (List.range n).filter fun j => E b j && j != a
theorem conF_all {n a b : Nat} {E : Nat → Nat → Bool} : indN n (conF E a (nbL n E a b)) = indN n (conE E a b) := by
  refine natList_ext (by rw [indN_length, indN_length]) fun r hr => ?_
  rw [indN_length] at hr
  refine Nat.eq_of_testBit_eq fun j => ?_
  rw [indN_bit hr, indN_bit hr]
  by_cases hj : j < n
  · simp only [conF, conE, nbL, List.mem_filter, List.mem_range, hj, hr, true_and, Bool.decide_eq_true]
  · simp [hj]
/-! ### Parts -/
theorem rch_con {E : Nat → Nat → Bool} (hs : ∀ r j, E r j = true → E j r = true) {L : List Nat} {a b : Nat} (ha : a ∈ L) (hb : b ∈ L) (hab : a ≠ b) (hE : E a b = true) {u : Nat} (hub : u ≠ b) (x : Nat) (hx : x ≠ b) :
    Rch E (· ∈ L) u x ↔ Rch (conE E a b) (· ∈ L.filter fun v => v != b) u x := by
  constructor
  · intro h
    have key : ∀ y, Rch E (· ∈ L) u y → Rch (conE E a b) (· ∈ L.filter fun v => v != b) u (if y = b then a else y) := by
      refine rch_closed (by rw [if_neg hub]; exact .base) fun y z hy hyz hz => ?_
      by_cases h1 : y = b
      · rw [if_pos h1] at hy
        by_cases h2 : z = b
        · rw [if_pos h2]; exact hy
        · rw [if_neg h2]
          by_cases h3 : z = a
          · rw [h3]; exact hy
          · refine .step hy ?_ (by simp [hz, h2])
            subst h1
            simp [conE, hyz, h3]
      · rw [if_neg h1] at hy
        by_cases h2 : z = b
        · rw [if_pos h2]
          by_cases h3 : y = a
          · rw [h3] at hy; exact hy
          · refine .step hy ?_ (by simp [ha, hab])
            have := hs _ _ hyz
            subst h2
            simp [conE, this, h3]
        · rw [if_neg h2]
          refine .step hy ?_ (by simp [hz, h2])
          simp [conE, hyz]
    have := key x h
    rwa [if_neg hx] at this
  · intro h
    refine (rch_closed (T := fun x => Rch E (· ∈ L) u x) .base (fun y z hy hyz hz => ?_) x h)
    have hz := (List.mem_filter.1 hz).1
    simp only [conE, Bool.or_eq_true, Bool.and_eq_true, beq_iff_eq, bne_iff_ne] at hyz
    rcases hyz with (h1 | ⟨rfl, h1, _⟩) | ⟨rfl, h1, _⟩
    · exact .step hy h1 hz
    · exact .step (.step hy hE hb) h1 hz
    · exact .step (.step hy (hs _ _ h1) hb) (hs _ _ hE) hz
theorem con_far {E : Nat → Nat → Bool} {a b r j : Nat} (hr : r ≠ a) (hj : j ≠ a) : conE E a b r j = E r j := by
  have h1 : (r == a) = false := beq_eq_false_iff_ne.2 hr
  have h2 : (j == a) = false := beq_eq_false_iff_ne.2 hj
  simp [conE, h1, h2]
theorem parts_con {E : Nat → Nat → Bool} (hs : ∀ r j, E r j = true → E j r = true) {a b : Nat} (hab : a < b) (hE : E a b = true) {L : List Nat} {ps : List (List Nat)} (h : Parts E L ps) : L.Pairwise (· < ·) → a ∈ L → b ∈ L →
    ∃ qs, Parts (conE E a b) (L.filter fun v => v != b) qs ∧ qs.length = ps.length := by
  induction h with
  | done => intro _ ha; cases ha
  | step u L ps hp ih =>
    intro hr ha hb
    have hub : u ≠ b := by
      rintro rfl
      rcases List.mem_cons.1 ha with e | e
      · omega
      · have := (List.pairwise_cons.1 hr).1 a e
        omega
    have hne : a ≠ b := by omega
    have eF : ((u :: L).filter fun v => v != b) = u :: (L.filter fun v => v != b) := by rw [List.filter_cons_of_pos (by simpa using hub)]
    have key := rch_con hs ha hb hne hE hub
    have eR : restL (conE E a b) ((u :: L).filter fun v => v != b) u = (restL E (u :: L) u).filter fun v => v != b := by
      unfold restL
      rw [List.filter_filter, List.filter_filter]
      refine List.filter_congr fun x _ => ?_
      by_cases hx : x = b
      · simp [hx]
      · rw [dec_congr (key x hx)]
        simp [hx, Bool.and_comm]
    by_cases hra : Rch E (· ∈ u :: L) u a
    · have hrb : Rch E (· ∈ u :: L) u b := .step hra hE hb
      have ha' : a ∉ restL E (u :: L) u := fun h => (mem_restL.1 h).2 hra
      have hb' : b ∉ restL E (u :: L) u := fun h => (mem_restL.1 h).2 hrb
      refine ⟨partL (conE E a b) (u :: (L.filter fun v => v != b)) u :: ps, ?_, rfl⟩
      rw [eF] at eR ⊢
      refine .step u _ ps ?_
      rw [eR, filter_off hb']
      exact parts_congr hp fun r j h1 h2 => (con_far (by rintro rfl; exact ha' h1) (by rintro rfl; exact ha' h2)).symm
    · have hrb : ¬ Rch E (· ∈ u :: L) u b := fun h => hra (.step h (hs _ _ hE) ha)
      obtain ⟨qs, h1, h2⟩ := ih (restL_rising hr u) (mem_restL.2 ⟨ha, hra⟩) (mem_restL.2 ⟨hb, hrb⟩)
      refine ⟨partL (conE E a b) (u :: (L.filter fun v => v != b)) u :: qs, ?_, by simp [h2]⟩
      rw [eF] at eR ⊢
      refine .step u _ qs ?_
      rw [eR]
      exact h1
theorem rch_named {E X : Nat → Nat → Bool} {f : Nat → Nat} {M : List Nat} (hX : ∀ r j, r ∈ M → j ∈ M → X r j = E (f r) (f j)) (hf : ∀ r j, r ∈ M → j ∈ M → f r = f j → r = j) {u : Nat} (hu : u ∈ M) (x : Nat) (hx : x ∈ M) : Rch E (· ∈ M.map f) (f u) (f x) ↔ Rch X (· ∈ M) u x := by
  constructor
  · intro h
    have key : ∀ y, Rch E (· ∈ M.map f) (f u) y → ∃ z, z ∈ M ∧ y = f z ∧ Rch X (· ∈ M) u z := by
      refine rch_closed ⟨u, hu, rfl, .base⟩ fun a b ha hE hb => ?_
      obtain ⟨z, hzM, rfl, hz⟩ := ha
      obtain ⟨c, hc, rfl⟩ := List.mem_map.1 hb
      exact ⟨c, hc, rfl, .step hz (by rw [hX z c hzM hc]; exact hE) hc⟩
    obtain ⟨z, hzM, e, hz⟩ := key _ h
    rw [hf x z hx hzM e]
    exact hz
  · intro h
    have key : ∀ y, Rch X (· ∈ M) u y → y ∈ M ∧ Rch E (· ∈ M.map f) (f u) (f y) := by
      refine rch_closed ⟨hu, .base⟩ fun a b ha hE hb => ⟨hb, .step ha.2 (by rw [← hX a b ha.1 hb]; exact hE) (List.mem_map.2 ⟨b, hb, rfl⟩)⟩
    exact (key x h).2
theorem parts_named {E X : Nat → Nat → Bool} {f : Nat → Nat} {M : List Nat} {qs : List (List Nat)} (h : Parts X M qs) : (∀ r j, r ∈ M → j ∈ M → X r j = E (f r) (f j)) → (∀ r j, r ∈ M → j ∈ M → f r = f j → r = j) → Parts E (M.map f) (qs.map (List.map f)) := by
  induction h with
  | done => intro _ _; exact .done
  | step u M qs _ ih =>
    intro hX hf
    have hu : u ∈ u :: M := List.mem_cons_self ..
    have e1 : partL E ((u :: M).map f) (f u) = (partL X (u :: M) u).map f := by
      unfold partL
      rw [List.filter_map]
      congr 1
      exact List.filter_congr fun x hx => dec_congr (rch_named hX hf hu x hx)
    have e2 : restL E ((u :: M).map f) (f u) = (restL X (u :: M) u).map f := by
      unfold restL
      rw [List.filter_map]
      congr 1
      refine List.filter_congr fun x hx => ?_
      simp only [Function.comp]
      rw [dec_congr (rch_named hX hf hu x hx)]
    have hin : ∀ r, r ∈ restL X (u :: M) u → r ∈ u :: M := fun r h => (mem_restL.1 h).1
    have := Parts.step (E := E) (f u) (M.map f) (qs.map (List.map f)) (by rw [← List.map_cons (f := f), e2]; exact ih (fun r j h1 h2 => hX r j (hin r h1) (hin j h2)) fun r j h1 h2 => hf r j (hin r h1) (hin j h2))
    rw [← List.map_cons (f := f), e1] at this
    exact this

/-! ### How many edges -/
theorem con_cnt {n a b : Nat} {E : Nat → Nat → Bool} (hs : ∀ r j, E r j = true → E j r = true) (hi : ∀ r, E r r = false) (hab : a < b) (hb : b < n) (hE : E a b = true) :
    ((restN n b).map fun r => (restN n b).countP (conE E a b r)).sum + 2 ≤ totN n E := by
  have haR : a ∈ restN n b := mem_restN.2 ⟨by omega, by omega⟩
  have hbR : b ∈ List.range n := List.mem_range.2 hb
  have hdeg : ∀ r, degN n E r = (E r b).toNat + (restN n b).countP (E r) := fun r => countP_splitC (E r) List.nodup_range hbR
  unfold totN
  rw [sum_splitC (degN n E) List.nodup_range hbR]
  change _ ≤ degN n E b + ((restN n b).map (degN n E)).sum
  rw [sum_splitC (degN n E) (restN_nodup n b) haR, sum_splitC (fun r => (restN n b).countP (conE E a b r)) (restN_nodup n b) haR]
  have hba := hs _ _ hE
  have h1 : (restN n b).countP (conE E a b a) ≤ (restN n b).countP (E a) + (restN n b).countP (fun j => E b j && j != a) := by
    refine countP_orC fun x hx h => ?_
    simp only [conE, Bool.or_eq_true, Bool.and_eq_true, beq_iff_eq, bne_iff_ne] at h
    rcases h with (h | ⟨_, h2, h3⟩) | ⟨_, _, h⟩
    · exact .inl h
    · exact .inr (by simp [h2, h3])
    · exact absurd rfl h
  have h2 := countP_splitC (fun j => E b j && j != a) (restN_nodup n b) haR
  have h3 := countP_splitC (E b) (restN_nodup n b) haR
  have h4 : ((restN n b).filter fun v => v != a).countP (fun j => E b j && j != a) = ((restN n b).filter fun v => v != a).countP (E b) := by
    refine List.countP_congr fun x hx => ?_
    have := (List.mem_filter.1 hx).2
    simp [this]
  have h5 := hdeg a
  have h6 := hdeg b
  rw [hE] at h5
  rw [hi] at h6
  rw [hba] at h3
  simp at h2 h3 h5 h6
  have h7 : (((restN n b).filter fun v => v != a).map fun r => (restN n b).countP (conE E a b r)).sum ≤ (((restN n b).filter fun v => v != a).map (degN n E)).sum := by
    refine sum_leC fun r hr => ?_
    obtain ⟨hrR, hra⟩ := List.mem_filter.1 hr
    rw [bne_iff_ne] at hra
    rw [hdeg r]
    by_cases hrb : E r b = true
    · have h8 : (restN n b).countP (conE E a b r) ≤ (restN n b).countP (E r) + (restN n b).countP (fun j => j == a) := by
        refine countP_orC fun x hx h => ?_
        simp only [conE, Bool.or_eq_true, Bool.and_eq_true, beq_iff_eq, bne_iff_ne] at h
        rcases h with (h | ⟨h, _⟩) | ⟨h, _⟩
        · exact .inl h
        · exact absurd h hra
        · exact .inr (by simp [h])
      have h9 : (restN n b).countP (fun j => j == a) ≤ 1 := by
        have := List.nodup_iff_count.1 (restN_nodup n b) a
        exact this
      rw [hrb]
      simp
      omega
    · have h8 : (restN n b).countP (conE E a b r) ≤ (restN n b).countP (E r) := by
        refine List.countP_mono_left fun x hx h => ?_
        simp only [conE, Bool.or_eq_true, Bool.and_eq_true, beq_iff_eq, bne_iff_ne] at h
        rcases h with (h | ⟨h, _⟩) | ⟨_, h, _⟩
        · exact h
        · exact absurd h hra
        · exact absurd (hs _ _ h) hrb
      omega
  rw [h5] at *
  omega

/-! ### The contracted graph -/
def conG (g : List (List Int)) (a b : Nat) : List (List Int) := indL (matG g.length (conE (ofG g) a b)) (natInts (restN g.length b))
theorem conG_length {g : List (List Int)} {a b : Nat} (hb : b < g.length) : (conG g a b).length = g.length - 1 := by
  unfold conG indL
  rw [matG_length, natInts_length, restN_length hb]
theorem conG_get {g : List (List Int)} {a b i k : Nat} (hi : i < (restN g.length b).length) (hk : k < (restN g.length b).length) : ofG (conG g a b) i k = conE (ofG g) a b ((restN g.length b)[i]) ((restN g.length b)[k]) := by
  unfold conG indL
  rw [ofG_matG (by rw [natInts_length]; exact hi) (by rw [natInts_length]; exact hk), indE_nat hi hk, ofG_matG (mem_restN.1 (List.getElem_mem hi)).1 (mem_restN.1 (List.getElem_mem hk)).1]
theorem map_getC {L : List Nat} : (List.range L.length).map (fun i => L.getD i 0) = L := by
  refine List.ext_getElem (by simp) fun i h1 h2 => ?_
  simp only [List.getElem_map, List.getElem_range]
  rw [List.getD_eq_getElem?_getD, List.getElem?_eq_getElem h2]
  rfl
theorem conG_gok {g : List (List Int)} (hg : GOk g) {a b : Nat} (hab : a < b) (hb : b < g.length) : GOk (conG g a b) := by
  have h16 := hg.le
  unfold conG
  exact indL_gok (gok_matG hg.pos h16 (conE_sym (ofG_sym hg) a b) (conE_irr (ofG_irr hg) a b)) (fun v hv => by rw [matG_length]; exact (mem_restN.1 hv).1) (by rw [restN_length hb]; omega) (by rw [restN_length hb]; omega)
theorem conG_less {g : List (List Int)} (hg : GOk g) {a b : Nat} (hab : a < b) (hb : b < g.length) (hE : ofG g a b = true) : cntE (conG g a b) (conG g a b).length < cntE g g.length := by
  have h1 := two_cntE hg
  have hok : GOk (conG g a b) := conG_gok hg hab hb
  have h2 := two_cntE hok
  have h3 := con_cnt (ofG_sym hg) (ofG_irr hg) hab hb hE
  have hl : (conG g a b).length = (restN g.length b).length := by rw [conG_length hb, restN_length hb]
  have h4 : totN (conG g a b).length (ofG (conG g a b)) = ((restN g.length b).map fun r => (restN g.length b).countP (conE (ofG g) a b r)).sum := by
    unfold totN
    rw [hl]
    congr 1
    conv => rhs; rw [← map_getC (L := restN g.length b)]
    rw [List.map_map]
    refine List.map_congr_left fun i hi => ?_
    have hi := List.mem_range.1 hi
    unfold degN
    simp only [Function.comp]
    conv => rhs; rw [map_getC]
    have e := List.countP_map (p := conE (ofG g) a b ((restN g.length b).getD i 0)) (f := fun i => (restN g.length b).getD i 0) (l := List.range (restN g.length b).length)
    rw [map_getC] at e
    rw [e]
    refine List.countP_congr fun k hk => ?_
    have hk := List.mem_range.1 hk
    rw [conG_get hi hk]
    simp only [Function.comp, List.getD_eq_getElem?_getD, List.getElem?_eq_getElem hi, List.getElem?_eq_getElem hk, Option.getD_some]
  omega
theorem conG_parts {g : List (List Int)} (hg : GOk g) {a b : Nat} (hab : a < b) (hb : b < g.length) (hE : ofG g a b = true) {ps rs : List (List Nat)} (h : Parts (ofG g) (List.range g.length) ps) (hr : Parts (ofG (conG g a b)) (List.range (conG g a b).length) rs) : rs.length = ps.length := by
  obtain ⟨qs, h1, h2⟩ := parts_con (ofG_sym hg) hab hE h List.pairwise_lt_range (List.mem_range.2 (by omega)) (List.mem_range.2 hb)
  have hl : (conG g a b).length = (restN g.length b).length := by rw [conG_length hb, restN_length hb]
  rw [hl] at hr
  have h3 := parts_named (E := conE (ofG g) a b) (f := fun i => (restN g.length b).getD i 0) hr (fun r j h4 h5 => by
    have h4 := List.mem_range.1 h4
    have h5 := List.mem_range.1 h5
    rw [conG_get h4 h5]
    simp only [List.getD_eq_getElem?_getD, List.getElem?_eq_getElem h4, List.getElem?_eq_getElem h5, Option.getD_some]) (fun r j h4 h5 e => by
    have h4 := List.mem_range.1 h4
    have h5 := List.mem_range.1 h5
    simp only [List.getD_eq_getElem?_getD, List.getElem?_eq_getElem h4, List.getElem?_eq_getElem h5, Option.getD_some] at e
    exact rising_inj (restN_rising _ _) h4 h5 e)
  rw [map_getC] at h3
  have := parts_det h1 h3
  rw [this, List.length_map] at h2
  exact h2

end Go.Proofs.YtkppbmfliejnmaaDoor

/- Walks: the reference's edges. -/
namespace Go.Proofs.YtkppbmfliejnmaaDoor
open Go.RowKit

set_option maxRecDepth 100000 in
set_option maxHeartbeats 4000000 in
theorem l1EdgesC_any (v : Value) (g : List (List Int)) (hok : GOk g) (w : World) (hg : Gr w v g) :
    Calls Tryd.prog 140 #[v] w fun e w' => ∃ u : Value, e = .returned u ∧ PrsO w' w.heap.size u (edN g.length (ofG g) g.length) ∧ Below w.heap.size w w' := by
  have hg0 := hg
  obtain ⟨u, rfl, hr⟩ := hg
  obtain ⟨p, c, rfl, _⟩ := hr.shape
  have h16 := hok.le
  have hbA := below_alloc w (.cells #[.slice p g.length c] 29)
  have HB := Lib.hid hbA
  have BX := Lib.hid ((Box.new w (.slice p g.length c) 29).alloc (.cells #[] 33))
  have HG := Lib.hid hg0
  have H2 := Lib.hid (gOk_row_le hok)
  have HOK := Lib.hid hok
  have HR := Lib.hid hr
  have HC : Hid (∀ k, k ≤ g.length → (edN g.length (ofG g) k).length ≤ 256) := Lib.hid fun k hk => by
    have := edN_length g.length (ofG g) k
    have : k * g.length ≤ 16 * 16 := Nat.mul_le_mul (by omega) h16
    omega
  clear hr hg0 hbA hok
  go_enter Tryd.func140, Tryd.ntmps140
  go_wp2
  go_loopw [3, 4] (fun u i wr => ∃ k : Nat, k ≤ g.length ∧ i = .int .i64 k ∧ PrsO wr (w.heap.size + 1) u (edN g.length (ofG g) k) ∧ Below w.heap.size w wr ∧ Box wr w.heap.size 29 (.slice p g.length c))
    (fun _ i _ => g.length - (intOf i).toNat)
  case atStart => exact ⟨0, Nat.zero_le _, rfl, by have := PrsO.nil (w.alloc (.cells #[.slice p g.length c] 29)) (w.heap.size + 1) (by rw [size_alloc]; omega); rw [size_alloc] at this; exact this, HB.out.alloc HB.out.size _, BX.out⟩
  case round =>
    obtain ⟨k, hk, rfl, hown, hbel, hbx⟩ := hrel
    have hc := hbx.cell
    have Hbx := Lib.hid hbx
    obtain ⟨outp, outc, rfl⟩ := hown.shape
    have Hown := Lib.hid hown
    have hsz := hbel.size
    clear hown hbx
    by_cases hlt : k < g.length
    · obtain ⟨b, o, rp, rc, rfl, hcell, hnums⟩ := (HR.out.below hbel).get hlt
      change wr.cell? _ = some (.slice rp (row g k).length rc) at hcell
      have Hnums2 : Hid (Nums wr 2 .i64 (.slice rp (row g k).length rc) (row g k)) := Lib.hid hnums
      have hlen2 := H2.out k hlt
      have hck := HC.out k hk
      have HEND := Lib.hid (edT_end HOK.out hlt)
      clear hnums hcell
      go_wp2_with (go_at_call 132; refine (l1Size_any _ g _ (HG.out.below hbel)).mono ?_; rintro e w4 ⟨rfl, hb4⟩)
      have START : Hid (PrsO w4 (w.heap.size + 1) (.slice outp (edN g.length (ofG g) k).length outc) (edN g.length (ofG g) k ++ edT g k 0)) := Lib.hid (by
        have : edT g k 0 = [] := by simp [edT]
        rw [this, List.append_nil]; exact Hown.out.below hb4)
      have HBEL := Lib.hid (hbel.trans (hb4.mono hsz))
      have HBX4 := Lib.hid (Hbx.out.keep hb4)
      go_loopw [3, 5] (fun u i wx => ∃ t : Nat, t ≤ (row g k).length ∧ i = .int .i64 t ∧ PrsO wx (w.heap.size + 1) u (edN g.length (ofG g) k ++ edT g k t) ∧ Below w.heap.size w wx ∧ Box wx w.heap.size 29 (.slice (some ⟨b, o, none⟩) g.length c))
        (fun _ i _ => (row g k).length - (intOf i).toNat)
      case atStart => exact ⟨0, Nat.zero_le _, rfl, START.out, HBEL.out, HBX4.out⟩
      case round =>
        clear START Hown hbel HBEL hsz Hnums2 hc Hbx HBX4 hb4
        obtain ⟨t, ht, rfl, hown, hbel, hbx⟩ := hrel
        have hc := hbx.cell
        have Hbx := Lib.hid hbx
        obtain ⟨_, _, rp, rc, e, hcell, hnums⟩ := (HR.out.below hbel).get hlt
        simp only [Option.some.injEq, Addr.mk.injEq, and_true] at e
        obtain ⟨rfl, rfl⟩ := e
        replace hcell : wr.cell? _ = some (.slice rp (row g k).length rc) := hcell
        replace hnums : Nums wr 2 .i64 (.slice rp (row g k).length rc) (row g k) := hnums
        have hsz := hbel.size
        obtain ⟨outp, outc, rfl⟩ := hown.shape
        clear hbx
        have hte := edT_len g k t
        by_cases hlt2 : t < (row g k).length
        · obtain ⟨rb, ro, rfl, hcx⟩ := hnums.get hlt2
          have hsucc := Lib.hid (edT_succ (g := g) (k := k) hlt2)
          have hX0 := Lib.hid (((HOK.out.sets k hlt).1.1 _ (List.getElem_mem hlt2)).1)
          by_cases hgt : (k : Int) < (row g k)[t]
          · generalize (row g k)[t] = X at hcx hgt hsucc hX0
            obtain ⟨vals, hv1, hv2, hv3⟩ := hown
            have hll : (edN g.length (ofG g) k ++ edT g k t).length < 1000000000 := by rw [List.length_append]; omega
            have HV3 := Lib.hid hv3
            have HV1 := Lib.hid hv1
            clear hnums hv3 hv1 hte
            generalize hq : (edN g.length (ofG g) k ++ edT g k t).length = q at hll hv2
            go_wp2_with (at_builtin; refine wpList_app1s ty_rows64 rfl rfl rfl (hv2.alloc (.cells #[.int .i64 k, .int .i64 X] 2)) (by rw [size_alloc]; rfl) rfl hll (by rw [size_alloc]; omega) ?_; intro b7 c8 w7 hown7 hg7 _)
            go_roundw
            case rel =>
              have ha := below_alloc wr (.cells #[.int .i64 k, .int .i64 X] 2)
              have hrow : Nums (wr.alloc (.cells #[.int .i64 k, .int .i64 X] 2)) 2 .i64 (.slice (some ⟨wr.heap.size, 0, none⟩) 2 2) [((k : Nat) : Int), ((X.toNat : Nat) : Int)] := by
                rw [Int.toNat_of_nonneg hX0.out]
                exact Nums.of_owns (World.ownsRow_lit (size := 1) wr #[.int .i64 k, .int .i64 X] 2 (Nat.le_refl wr.heap.size) (by decide) rfl) rfl (by decide)
              subst hq
              refine ⟨t + 1, by omega, by go_num, ?_, below_grown (hbel.alloc hsz _) (hv2.alloc _) hg7 (by omega) (by rw [size_alloc]; omega), (Hbx.out.keep ha).below (below_grown (Below.refl (w.heap.size + 1) _) (hv2.alloc _) hg7 (Nat.le_refl _) (by rw [size_alloc]; omega)) (by omega)⟩
              rw [hsucc.out, if_pos hgt, ← List.append_assoc]
              exact PrsO.snoc (e := (k, X.toNat)) HV1.out (hv2.alloc _) (fun j hj => (HV3.out j hj).below ha) hown7 hg7 hrow
            case measure => simp [intOf]; omega
          · have Hown := Lib.hid hown
            generalize (row g k)[t] = X at hcx hgt hsucc hX0
            clear hown hnums
            go_wp2
            go_roundw
            case rel => exact ⟨t + 1, by omega, by go_num, by rw [hsucc.out, if_neg hgt]; exact Hown.out, hbel, Hbx.out⟩
            case measure => simp [intOf]; omega
        · obtain rfl : t = (row g k).length := by omega
          have Hown := Lib.hid hown
          clear hown hnums
          go_wp2
          go_roundw
          case rel =>
            refine ⟨k + 1, by omega, by go_num, ?_, hbel, Hbx.out⟩
            rw [edN_succ, ← HEND.out]
            exact Hown.out
          case measure => simp [intOf]; omega
    · obtain rfl : k = g.length := by omega
      go_wp2_with (go_at_call 132; refine (l1Size_any _ g _ (HG.out.below hbel)).mono ?_; rintro e w4 ⟨rfl, hb4⟩)
      go_ret
      exact ⟨_, rfl, (Hown.out.below hb4).base (by omega), hbel.trans (hb4.mono hsz)⟩

set_option maxHeartbeats 1000000 in
theorem specEdgesOf_any (v : Value) (g : List (List Int)) (hok : GOk g) (w : World) (hg : Gr w v g) :
    Calls Tryd.prog 80 #[v] w fun e w' => ∃ u : Value, e = .returned u ∧ PrsO w' w.heap.size u (edN g.length (ofG g) g.length) ∧ Below w.heap.size w w' := by
  have hg0 := hg
  obtain ⟨u, rfl, hr⟩ := hg
  obtain ⟨p, c, rfl, _⟩ := hr.shape
  have hbA := Lib.hid (below_alloc w (.cells #[.slice p g.length c] 29))
  have HG := Lib.hid (hg0.below hbA.out)
  have BX := Lib.hid (Box.new w (.slice p g.length c) 29)
  have HOK := Lib.hid hok
  have hd := Lib.hid (dec_true hok)
  clear hr hg0 hok
  go_enter Tryd.func80, Tryd.ntmps80
  go_wp2_with (first
    | (go_at_call 73; refine (specGraphOk_any _ g _ HG.out).mono ?_; rintro e w2 ⟨he, hb2⟩; rw [hd.out] at he; subst he; have hcx := (BX.out.keep hb2).cell)
    | (go_at_call 140; refine (l1EdgesC_any _ g HOK.out _ (HG.out.below hb2)).mono ?_; rintro e w3 ⟨u3, rfl, hp3, hb3⟩))
  go_ret
  have h1 := hbA.out.trans (hb2.mono hbA.out.size)
  exact ⟨_, rfl, hp3.base h1.size, h1.trans (hb3.mono h1.size)⟩

end Go.Proofs.YtkppbmfliejnmaaDoor

/- Walks: the program's edges, how many, an edge; the reference's edges, in whatever graph. -/
namespace Go.Proofs.YtkppbmfliejnmaaDoor
open Go.RowKit

theorem PrsO.rwsE {w : World} {base : Nat} {ov : Value} {l : List (Nat × Nat)} (h : PrsO w base ov l) (hl : l.length ≤ 1000000) : Rws w 33 2 ov (prsL l) := by
  obtain ⟨vals, h1, h2, h3⟩ := h
  have e : (prsL l).length = l.length := by simp [prsL]
  exact ⟨vals, by rw [e]; exact h1, by rw [e]; exact Sl.of_owns h2 (by omega), fun j hj => h3 j (by rw [← e]; exact hj)⟩

set_option maxRecDepth 100000 in
set_option maxHeartbeats 1000000 in
theorem implEdgesOf_any (v : Value) (g : List (List Int)) (w : World) (hg : Gr w v g) :
    Calls Tryd.prog 171 #[v] w fun e w' => ∃ u : Value, e = .returned u ∧ ((GOk g ∧ PrsO w' w.heap.size u (edN g.length (ofG g) g.length)) ∨ (¬ GOk g ∧ u = .slice none 0 0)) ∧ Below w.heap.size w w' := by
  have hg0 := hg
  obtain ⟨u, rfl, hr⟩ := hg
  obtain ⟨p, c, rfl, _⟩ := hr.shape
  have hbA := Lib.hid (below_alloc w (.cells #[.slice p g.length c] 29))
  have HG := Lib.hid (hg0.below hbA.out)
  have BX := Lib.hid (Box.new w (.slice p g.length c) 29)
  clear hr hg0
  by_cases hok : GOk g
  · have HD := Lib.hid (dec_true hok)
    have HOK := Lib.hid hok
    clear hok
    go_enter Tryd.func171, Tryd.ntmps171
    go_wp2_with (first
      | (go_at_call 87; refine (implGraphOk_any _ g _ HG.out).mono ?_; rintro e w2 ⟨he, hb2⟩; rw [HD.out] at he; subst he; have hbx := (BX.out.keep hb2).cell)
      | (go_at_call 217; refine (edgesC_any _ g HOK.out _ (HG.out.below hb2)).mono ?_; rintro e w3 ⟨u3, rfl, hp3, hb3⟩; obtain ⟨p3, c3, rfl⟩ := hp3.shape; have HP3 := Lib.hid hp3; clear hp3))
    go_ret
    exact ⟨_, rfl, .inl ⟨HOK.out, HP3.out.base (Nat.le_trans hbA.out.size hb2.size)⟩, (hbA.out.trans (hb2.mono hbA.out.size)).trans (hb3.mono (Nat.le_trans hbA.out.size hb2.size))⟩
  · have HD := Lib.hid (dec_false hok)
    have HOK := Lib.hid hok
    clear hok
    go_enter Tryd.func171, Tryd.ntmps171
    go_wp2_with (go_at_call 87; refine (implGraphOk_any _ g _ HG.out).mono ?_; rintro e w2 ⟨he, hb2⟩; rw [HD.out] at he; subst he)
    go_ret
    exact ⟨_, rfl, .inr ⟨HOK.out, rfl⟩, hbA.out.trans (hb2.mono hbA.out.size)⟩

/-- How many edges a graph has; none where it is not right. -/
noncomputable def manE (g : List (List Int)) : Nat := if dec (GOk g) = true then (edN g.length (ofG g) g.length).length else 0
theorem manE_yes {g : List (List Int)} (h : GOk g) : manE g = (edN g.length (ofG g) g.length).length := by unfold manE; rw [if_pos (dec_true h)]
theorem manE_no {g : List (List Int)} (h : ¬ GOk g) : manE g = 0 := by unfold manE; rw [if_neg (by rw [dec_false h]; decide)]
set_option maxRecDepth 100000 in
set_option maxHeartbeats 1000000 in
theorem implManyE_any (v : Value) (g : List (List Int)) (w : World) (hg : Gr w v g) :
    Calls Tryd.prog 76 #[v] w fun e w' => e = .returned (.int .i64 (manE g : Int)) ∧ Below w.heap.size w w' := by
  have hg0 := hg
  obtain ⟨u, rfl, hr⟩ := hg
  obtain ⟨p, c, rfl, _⟩ := hr.shape
  have hbA := Lib.hid (below_alloc w (.cells #[.slice p g.length c] 29))
  have HG := Lib.hid (hg0.below hbA.out)
  have BX := Lib.hid (Box.new w (.slice p g.length c) 29)
  have E : Hid (∀ (w : World), Gr w (.agg #[.slice p g.length c]) g → Calls Tryd.prog 171 #[.agg #[.slice p g.length c]] w fun e w' => ∃ p c, e = .returned (.slice p (manE g) c) ∧ Below w.heap.size w w') := Lib.hid (fun w hg => by
    refine (implEdgesOf_any _ g w hg).mono ?_
    rintro e w2 ⟨u, rfl, h | ⟨h, rfl⟩, hb⟩
    · obtain ⟨q, d, rfl⟩ := h.2.shape
      exact ⟨q, d, by rw [manE_yes h.1], hb⟩
    · exact ⟨none, 0, by rw [manE_no h], hb⟩)
  clear hr hg0
  go_enter Tryd.func76, Tryd.ntmps76
  go_wp2_with (go_at_call 171; refine (E.out _ HG.out).mono ?_; rintro e w2 ⟨p2, c2, rfl, hb2⟩)
  go_ret
  exact ⟨rfl, hbA.out.trans (hb2.mono hbA.out.size)⟩

set_option maxRecDepth 100000 in
set_option maxHeartbeats 1000000 in
theorem specEdgesE_any (v : Value) (g : List (List Int)) (w : World) (hg : Gr w v g) :
    Calls Tryd.prog 80 #[v] w fun e w' => ∃ (u : Value) (b : Nat), e = .returned u ∧ ((GOk g ∧ PrsO w' b u (edN g.length (ofG g) g.length)) ∨ (¬ GOk g ∧ PrsO w' b u [])) ∧ Below w.heap.size w w' := by
  by_cases hok : GOk g
  · refine (specEdgesOf_any v g hok w hg).mono ?_
    rintro e w2 ⟨u, rfl, hp, hb⟩
    exact ⟨u, _, rfl, .inl ⟨hok, hp⟩, hb⟩
  · have hg0 := hg
    obtain ⟨u, rfl, hr⟩ := hg
    obtain ⟨p, c, rfl, _⟩ := hr.shape
    have hbA := Lib.hid (below_alloc w (.cells #[.slice p g.length c] 29))
    have HG := Lib.hid (hg0.below hbA.out)
    have HD := Lib.hid (dec_false hok)
    have HOK := Lib.hid hok
    clear hr hg0 hok
    go_enter Tryd.func80, Tryd.ntmps80
    go_wp2_with (go_at_call 73; refine (specGraphOk_any _ g _ HG.out).mono ?_; rintro e w2 ⟨he, hb2⟩; rw [HD.out] at he; subst he)
    go_ret
    exact ⟨_, w2.heap.size, rfl, .inr ⟨HOK.out, PrsO.nil w2 _ (Nat.le_refl _)⟩, (hbA.out.trans (hb2.mono hbA.out.size)).alloc (Nat.le_trans hbA.out.size hb2.size) _⟩

set_option maxRecDepth 100000 in
set_option maxHeartbeats 1000000 in
theorem isVertexE_any (v : Value) (g : List (List Int)) (x : Int) (hok : GOk g) (w : World) (hg : Gr w v g) :
    Calls Tryd.prog 121 #[v, .int .i64 x] w fun e w' => e = .returned (.bool (dec (0 ≤ x ∧ x < g.length))) ∧ Below w.heap.size w w' := by
  have hg0 := hg
  obtain ⟨u, rfl, hr⟩ := hg
  obtain ⟨p, c, rfl, _⟩ := hr.shape
  have hbA := Lib.hid (below_alloc w (.cells #[.slice p g.length c] 29))
  have HG := Lib.hid (hg0.below hbA.out)
  have BX := Lib.hid (Box.new w (.slice p g.length c) 29)
  have HD := Lib.hid (dec_true hok)
  have h16 := hok.le
  have hwr : IntKind.i64.wrap ((g.length : Int) - 1) = (g.length : Int) - 1 := by rw [IntKind.wrap_i64]; omega
  have HC : Hid (dec (0 ≤ x ∧ x ≤ (g.length : Int) - 1) = dec (0 ≤ x ∧ x < g.length)) := Lib.hid (dec_congr (by omega))
  clear hr hg0 hok
  go_enter Tryd.func121, Tryd.ntmps121
  go_wp2_with (first
    | (go_at_call 87; refine (implGraphOk_any _ g _ HG.out).mono ?_; rintro e w2 ⟨he, hb2⟩; rw [HD.out] at he; subst he; have hbx := (BX.out.keep hb2).cell)
    | (go_at_call 137; refine (inRange_any _ _ _ _).mono ?_; rintro e w3 ⟨he, hw⟩; rw [HC.out] at he; subst he; subst hw))
  go_ret
  exact ⟨rfl, hbA.out.trans (hb2.mono hbA.out.size)⟩

set_option maxRecDepth 100000 in
set_option maxHeartbeats 1000000 in
theorem implEdgeIn_yes (v : Value) (g : List (List Int)) (y z : Int) (a b : Nat) (hy : y = a) (hz : z = b) (hok : GOk g) (ha : a < g.length) (hE : ofG g a b = true) (w : World) (hg : Gr w v g) :
    Calls Tryd.prog 41 #[v, .int .i64 y, .int .i64 z] w fun e w' => e = .returned (.bool true) ∧ Below w.heap.size w w' := by
  subst hy; subst hz
  have hg0 := hg
  obtain ⟨u, rfl, hr⟩ := hg
  obtain ⟨p, c, rfl, _⟩ := hr.shape
  have hbA := Lib.hid (below_alloc w (.cells #[.slice p g.length c] 29))
  have HG := Lib.hid (hg0.below hbA.out)
  have HR := Lib.hid (hr.below hbA.out)
  have BX := Lib.hid (Box.new w (.slice p g.length c) 29)
  have HDA := Lib.hid (dec_true (show (0 : Int) ≤ (a : Int) ∧ (a : Int) < g.length from ⟨by omega, by omega⟩))
  have HDE := Lib.hid (dec_true (show (b : Int) ∈ row g a by simpa [ofG] using hE))
  have HOK := Lib.hid hok
  obtain ⟨rb, ro, rp, rc, rfl, _, _⟩ := HR.out.get ha
  have HRow : Hid (∀ wz, Below w.heap.size w wz → ∃ rp rc, wz.cell? ⟨rb, ro + a, none⟩ = some (.slice rp (row g a).length rc) ∧ Nums wz 2 .i64 (.slice rp (row g a).length rc) (row g a)) := Lib.hid fun wz hbz => by
    obtain ⟨b', o', rp', rc', e1, h1, h2⟩ := (hr.below hbz).get ha
    cases e1
    exact ⟨rp', rc', h1, h2⟩
  clear hr hg0 hok hE
  go_enter Tryd.func41, Tryd.ntmps41
  go_wp2_with (first
    | (go_at_call 122; refine (contains_any _ (row g a) (b : Int) _ (hrn.below (below_dN (Below.refl _ _) 1))).mono ?_; rintro e w3 ⟨he, hw⟩; rw [HDE.out] at he; subst he; subst hw)
    | (go_at_call 122; refine (contains_any _ (row g a) (b : Int) _ hrn).mono ?_; rintro e w3 ⟨he, hw⟩; rw [HDE.out] at he; subst he; subst hw)
    | (go_at_call 121; refine (isVertexE_any _ g (a : Int) HOK.out _ HG.out).mono ?_; rintro e w2 ⟨he, hb2⟩; rw [HDA.out] at he; subst he; have hbx := (BX.out.keep hb2).cell; have hbw := hbA.out.trans (hb2.mono hbA.out.size); obtain ⟨rp2, rc2, hrc, hrn⟩ := HRow.out _ hbw))
  go_ret
  exact ⟨rfl, hbw⟩

end Go.Proofs.YtkppbmfliejnmaaDoor
