/- Plain: lists that go along edges; read backwards; when one can go along all edges. -/
import Derived.Test.YtmakhapdlkbbnaaDoorMnQ13
import Derived.Test.YtmakhapdlkbbnaaDoorMnQ22
import Derived.Test.YtmakhapdlkbbnaaDoorMnQ17
import Derived.Deep.RegionLaw
import Derived.Deep.DeepCutAuto
import Derived.Deep.RegionHeld3
namespace Go.Proofs.YtmakhapdlkbbnaaDoor

/-- The same edge. -/
def sameP (e f : Nat × Nat) : Bool := (e.1 == f.1 && e.2 == f.2) || (e.1 == f.2 && e.2 == f.1)
theorem sameP_iff {e f : Nat × Nat} : sameP e f = true ↔ (e.1 = f.1 ∧ e.2 = f.2) ∨ (e.1 = f.2 ∧ e.2 = f.1) := by simp [sameP]
theorem sameP_symm {e f : Nat × Nat} : sameP e f = sameP f e := by
  rw [Bool.eq_iff_iff, sameP_iff, sameP_iff]
  constructor <;> rintro (⟨h1, h2⟩ | ⟨h1, h2⟩)
  · exact .inl ⟨h1.symm, h2.symm⟩
  · exact .inr ⟨h2.symm, h1.symm⟩
  · exact .inl ⟨h1.symm, h2.symm⟩
  · exact .inr ⟨h2.symm, h1.symm⟩
theorem cutE_same (E : Nat → Nat → Bool) (p q r j : Nat) : cutE E p q r j = (E r j && !sameP (p, q) (r, j)) := by
  rw [Bool.eq_iff_iff]
  simp only [cutE, sameP, Bool.and_eq_true, Bool.not_eq_true', Bool.or_eq_false_iff, Bool.and_eq_false_iff, beq_eq_false_iff_ne]
  constructor
  · rintro ⟨h, h1, h2⟩
    refine ⟨h, ?_, ?_⟩
    · rcases h1 with h1 | h1
      · exact .inl fun e => h1 e.symm
      · exact .inr fun e => h1 e.symm
    · rcases h2 with h2 | h2
      · exact .inr fun e => h2 e.symm
      · exact .inl fun e => h2 e.symm
  · rintro ⟨h, h1, h2⟩
    refine ⟨h, ?_, ?_⟩
    · rcases h1 with h1 | h1
      · exact .inl fun e => h1 e.symm
      · exact .inr fun e => h1 e.symm
    · rcases h2 with h2 | h2
      · exact .inr fun e => h2 e.symm
      · exact .inl fun e => h2 e.symm
/-- The edges along a list. -/
def stepsL : Nat → List Nat → List (Nat × Nat)
  | _, [] => []
  | v, u :: l => (v, u) :: stepsL u l
theorem stepsL_length : ∀ (v : Nat) (l : List Nat), (stepsL v l).length = l.length
  | _, [] => rfl
  | v, u :: l => by simp [stepsL, stepsL_length u l]
theorem cutAll_cons (E : Nat → Nat → Bool) (e : Nat × Nat) (es : List (Nat × Nat)) : cutAll E (e :: es) = cutAll (cutE E e.1 e.2) es := rfl
theorem cutAll_at (es : List (Nat × Nat)) : ∀ (E : Nat → Nat → Bool) (r j : Nat), cutAll E es r j = (E r j && es.all fun e => !sameP e (r, j)) := by
  induction es with
  | nil => intro E r j; simp [cutAll]
  | cons e es ih =>
    intro E r j
    rw [cutAll_cons, ih, cutE_same, List.all_cons, Bool.and_assoc]
/-- Each edge is there when it is used. -/
def OkF : (Nat → Nat → Bool) → List (Nat × Nat) → Prop
  | _, [] => True
  | E, e :: es => E e.1 e.2 = true ∧ OkF (cutE E e.1 e.2) es
theorem okF_iff : ∀ (es : List (Nat × Nat)) (E : Nat → Nat → Bool), OkF E es ↔ (∀ e ∈ es, E e.1 e.2 = true) ∧ es.Pairwise fun e f => sameP e f = false
  | [], E => by simp [OkF]
  | e :: es, E => by
    rw [OkF, okF_iff es, List.pairwise_cons]
    constructor
    · rintro ⟨h1, h2, h3⟩
      refine ⟨fun f hf => ?_, fun f hf => ?_, h3⟩
      · rcases List.mem_cons.1 hf with rfl | hf
        · exact h1
        · have := h2 f hf
          rw [cutE_same] at this
          exact (Bool.and_eq_true_iff.1 this).1
      · have := h2 f hf
        rw [cutE_same] at this
        simpa using (Bool.and_eq_true_iff.1 this).2
    · rintro ⟨h1, h2, h3⟩
      refine ⟨h1 e (by simp), fun f hf => ?_, h3⟩
      rw [cutE_same, h1 f (by simp [hf]), h2 f hf]
      rfl
theorem stepsL_append : ∀ (v : Nat) (l : List Nat) (u : Nat), stepsL v (l ++ [u]) = stepsL v l ++ [((v :: l).getLastD 0, u)]
  | v, [], u => by simp [stepsL]
  | v, x :: l, u => by
    rw [List.cons_append, stepsL, stepsL, stepsL_append x l u]
    simp
/-- Read backwards. -/
def swapP (e : Nat × Nat) : Nat × Nat := (e.2, e.1)
def backL (v : Nat) (l : List Nat) : List Nat := (v :: l).reverse.tail
theorem steps_back : ∀ (l : List Nat) (v : Nat), stepsL ((v :: l).getLastD 0) (backL v l) = ((stepsL v l).map swapP).reverse
  | [], v => by simp [stepsL, backL]
  | u :: l, v => by
    have ih := steps_back l u
    have e1 : (v :: u :: l).getLastD 0 = (u :: l).getLastD 0 := by simp
    have hne : (u :: l).reverse ≠ [] := by simp
    have e2 : backL v (u :: l) = backL u l ++ [v] := by
      unfold backL
      rw [List.reverse_cons (a := v)]
      cases h : (u :: l).reverse with
      | nil => exact absurd h hne
      | cons a t => simp
    have e3 : (((u :: l).getLastD 0) :: backL u l).getLastD 0 = u := by
      have : ((u :: l).getLastD 0) :: backL u l = (u :: l).reverse := by
        unfold backL
        cases h : (u :: l).reverse with
        | nil => exact absurd h hne
        | cons a t =>
          have h2 : (u :: l) = (a :: t).reverse := by rw [← h, List.reverse_reverse]
          rw [h2]
          simp
      rw [this, List.reverse_cons, List.getLastD_eq_getLast?]
      simp
    rw [e1, e2, stepsL_append, ih, e3, stepsL]
    simp [swapP]
theorem okF_back {E : Nat → Nat → Bool} (hs : ∀ r j, E r j = true → E j r = true) {es : List (Nat × Nat)} (h : OkF E es) : OkF E (es.map swapP).reverse := by
  rw [okF_iff] at h ⊢
  refine ⟨fun e he => ?_, ?_⟩
  · rw [List.mem_reverse, List.mem_map] at he
    obtain ⟨f, hf, rfl⟩ := he
    exact hs _ _ (h.1 f hf)
  · rw [List.pairwise_reverse, List.pairwise_map]
    refine h.2.imp fun {a b} hab => ?_
    rw [sameP_symm]
    have e : sameP (swapP a) (swapP b) = sameP a b := by
      rw [Bool.eq_iff_iff, sameP_iff, sameP_iff]
      simp only [swapP]
      constructor <;> rintro (⟨h1, h2⟩ | ⟨h1, h2⟩)
      · exact .inl ⟨h2, h1⟩
      · exact .inr ⟨h2, h1⟩
      · exact .inl ⟨h2, h1⟩
      · exact .inr ⟨h2, h1⟩
    rw [e]; exact hab
theorem cut_back (E : Nat → Nat → Bool) (es : List (Nat × Nat)) : cutAll E (es.map swapP).reverse = cutAll E es := by
  funext r j
  rw [cutAll_at, cutAll_at, List.all_reverse, List.all_map]
  congr 2
  funext e
  simp only [Function.comp]
  congr 1
  rw [Bool.eq_iff_iff, sameP_iff, sameP_iff]
  simp only [swapP]
  constructor <;> rintro (⟨h1, h2⟩ | ⟨h1, h2⟩)
  · exact .inr ⟨h2, h1⟩
  · exact .inl ⟨h2, h1⟩
  · exact .inr ⟨h2, h1⟩
  · exact .inl ⟨h2, h1⟩

/-- Nothing is left. -/
def NoE (n : Nat) (E : Nat → Nat → Bool) : Prop := ∀ x, x < n → degN n E x = 0
/-- The list goes along each edge once. -/
def TrlOk (n : Nat) (E : Nat → Nat → Bool) (v : Nat) (l : List Nat) : Prop := (∀ x ∈ v :: l, x < n) ∧ OkF E (stepsL v l) ∧ NoE n (cutAll E (stepsL v l))
theorem trl_in {n : Nat} {E : Nat → Nat → Bool} {v : Nat} {l : List Nat} (h : Trl n E v l) : ∀ x ∈ l, x < n := by
  induction h with
  | done _ _ _ => intro x hx; simp at hx
  | step E v u l _ h2 _ ih =>
    intro x hx
    rcases List.mem_cons.1 hx with rfl | hx
    · exact List.mem_range.1 (List.mem_of_find?_eq_some h2)
    · exact ih x hx
theorem next_tr {n : Nat} {E : Nat → Nat → Bool} {v u : Nat} (h : nextT n E v = some u) : u < n ∧ E v u = true ∧ Tr n (cutE E v u) u := by
  have h1 := List.mem_range.1 (List.mem_of_find?_eq_some h)
  have h2 := List.find?_some h
  obtain ⟨h3, h4⟩ := Bool.and_eq_true_iff.1 h2
  exact ⟨h1, h3, dec_iff.1 h4⟩
theorem trl_ok {n : Nat} {E : Nat → Nat → Bool} {v : Nat} {l : List Nat} (h : Trl n E v l) : v < n → Tr n E v → OkF E (stepsL v l) ∧ NoE n (cutAll E (stepsL v l)) := by
  induction h with
  | done E v h0 =>
    intro hv hT
    refine ⟨trivial, fun x hx => ?_⟩
    have h1 := tr_left hv hT
    rcases Nat.eq_zero_or_pos (degN n E x) with h2 | h2
    · exact h2
    · have := h1.2 ⟨x, hx, h2⟩
      omega
  | step E v u l h1 h2 _ ih =>
    intro hv hT
    obtain ⟨hu, hE, hT2⟩ := next_tr h2
    obtain ⟨k1, k2⟩ := ih hu hT2
    exact ⟨⟨hE, k1⟩, k2⟩
theorem trl_trlOk {n : Nat} {E : Nat → Nat → Bool} {v : Nat} {l : List Nat} (h : Trl n E v l) (hv : v < n) (hT : Tr n E v) : TrlOk n E v l := by
  obtain ⟨h1, h2⟩ := trl_ok h hv hT
  refine ⟨fun x hx => ?_, h1, h2⟩
  rcases List.mem_cons.1 hx with rfl | hx
  · exact hv
  · exact trl_in h x hx
theorem last_mem (v : Nat) (l : List Nat) : (v :: l).getLastD 0 ∈ v :: l := by
  rw [List.getLastD_eq_getLast?]
  cases h : (v :: l).getLast? with
  | none => simp at h
  | some a => exact List.mem_of_getLast? h
theorem rev_back (v : Nat) (l : List Nat) : (v :: l).reverse = (v :: l).getLastD 0 :: backL v l := by
  unfold backL
  cases h : (v :: l).reverse with
  | nil => simp at h
  | cons a t =>
    have h2 : (v :: l) = (a :: t).reverse := by rw [← h, List.reverse_reverse]
    rw [h2]
    simp
theorem trlOk_back {n : Nat} {E : Nat → Nat → Bool} (hs : ∀ r j, E r j = true → E j r = true) {v : Nat} {l : List Nat} (h : TrlOk n E v l) : TrlOk n E ((v :: l).getLastD 0) (backL v l) := by
  refine ⟨fun x hx => ?_, ?_, ?_⟩
  · rw [← rev_back, List.mem_reverse] at hx
    exact h.1 x hx
  · rw [steps_back]; exact okF_back hs h.2.1
  · rw [steps_back, cut_back]; exact h.2.2
/-- Odd ones are the ends. -/
theorem trl_ends {n : Nat} : ∀ (l : List Nat) (E : Nat → Nat → Bool) (v : Nat), (∀ r, E r r = false) → (∀ r j, E r j = true → E j r = true) → v < n → (∀ x ∈ l, x < n) → OkF E (stepsL v l) → NoE n (cutAll E (stepsL v l)) → ∀ x, x < n → degN n E x % 2 = ((if x = v then 1 else 0) + (if x = (v :: l).getLastD 0 then 1 else 0)) % 2
  | [], E, v, _, _, _, _, _, h0, x, hx => by
    have := h0 x hx
    simp only [stepsL, cutAll, List.foldl_nil] at this
    rw [this]
    by_cases e : x = v
    · simp [e]
    · simp [e]
  | u :: l, E, v, hi, hs, hv, hl, hok, h0, x, hx => by
    have hu : u < n := hl u (by simp)
    have hE := hok.1
    simp only at hE
    have hvu : v ≠ u := fun e => by subst e; rw [hi] at hE; exact absurd hE (by decide)
    have ih := trl_ends l (cutE E v u) u (cutE_irr hi v u) (cutE_sym hs v u) hu (fun y hy => hl y (by simp [hy])) hok.2 h0 x hx
    have e1 : (v :: u :: l).getLastD 0 = (u :: l).getLastD 0 := by simp
    rw [e1]
    by_cases h1 : x = v
    · subst h1
      have := degN_cut_p hu hvu hE
      have h2 : ¬ x = u := hvu
      simp only [h2, if_false] at ih
      simp only [if_true]
      omega
    · by_cases h2 : x = u
      · subst h2
        have := degN_cut_q hv hvu (hs _ _ hE)
        simp only [if_true] at ih
        simp only [h1, if_false]
        omega
      · have := degN_cut_o (n := n) (E := E) h1 h2
        simp only [h2, if_false] at ih
        simp only [h1, if_false]
        omega
/-- Twice the edges used are the degrees used. -/
theorem totN_cut2 {n : Nat} {E : Nat → Nat → Bool} {v u : Nat} (hs : ∀ r j, E r j = true → E j r = true) (hi : ∀ r, E r r = false) (hv : v < n) (hu : u < n) (h : E v u = true) : totN n E = totN n (cutE E v u) + 2 := by
  have hvu : v ≠ u := fun e => by subst e; rw [hi] at h; exact absurd h (by decide)
  have h1 := degN_cut_p hu hvu h
  have h2 := degN_cut_q hv hvu (hs _ _ h)
  have key : ∀ l : List Nat, l.Nodup → (l.map (degN n E)).sum = (l.map (degN n (cutE E v u))).sum + ((if v ∈ l then 1 else 0) + (if u ∈ l then 1 else 0)) := by
    intro l
    induction l with
    | nil => intro _; simp
    | cons a l ih =>
      intro hn
      rw [List.nodup_cons] at hn
      have ih := ih hn.2
      simp only [List.map_cons, List.sum_cons, List.mem_cons]
      by_cases e1 : v = a
      · subst e1
        have : ¬ u = v := fun e => hvu e.symm
        simp only [hn.1, if_false] at ih
        simp only [true_or, if_true, this, false_or]
        omega
      · by_cases e2 : u = a
        · subst e2
          simp only [hn.1, if_false] at ih
          simp only [e1, false_or, true_or, if_true]
          omega
        · have := degN_cut_o (n := n) (E := E) (fun e => e1 e.symm : a ≠ v) (fun e => e2 e.symm : a ≠ u)
          simp only [e1, e2, false_or]
          omega
  have := key (List.range n) List.nodup_range
  simp only [List.mem_range, hv, hu, if_true] at this
  unfold totN
  omega
theorem trl_many {n : Nat} : ∀ (l : List Nat) (E : Nat → Nat → Bool) (v : Nat), (∀ r, E r r = false) → (∀ r j, E r j = true → E j r = true) → v < n → (∀ x ∈ l, x < n) → OkF E (stepsL v l) → totN n E = totN n (cutAll E (stepsL v l)) + 2 * l.length
  | [], E, v, _, _, _, _, _ => by simp [stepsL, cutAll]
  | u :: l, E, v, hi, hs, hv, hl, hok => by
    have hu : u < n := hl u (by simp)
    have h1 := totN_cut2 hs hi hv hu hok.1
    have h2 := trl_many l (cutE E v u) u (cutE_irr hi v u) (cutE_sym hs v u) hu (fun y hy => hl y (by simp [hy])) hok.2
    show totN n E = totN n (cutAll (cutE E v u) (stepsL u l)) + 2 * (l.length + 1)
    omega

end Go.Proofs.YtmakhapdlkbbnaaDoor

/- Plain: the edges counted are half the degrees. -/
namespace Go.Proofs.YtmakhapdlkbbnaaDoor

theorem cntE_edN {g : List (List Int)} (hg : GOk g) : ∀ k, k ≤ g.length → cntE g k = (edN g.length (ofG g) k).length
  | 0, _ => rfl
  | k + 1, hk => by
    have ih := cntE_edN hg k (by omega)
    have h1 := edT_end hg (show k < g.length by omega)
    have h2 : (edT g k (row g k).length).length = upL k (row g k) := by simp [edT, upL]
    rw [cntE, ih, edN_succ, List.length_append, ← h1, h2]
/-- The degrees within the first m. -/
def sumS (E : Nat → Nat → Bool) (m : Nat) : Nat := ((List.range m).map fun u => (List.range m).countP (E u)).sum
def sumP (E : Nat → Nat → Bool) (m : Nat) : Nat := ((List.range m).map fun u => (List.range m).countP fun v => decide (u < v) && E u v).sum
theorem sum_two {E : Nat → Nat → Bool} (hs : ∀ r j, E r j = true → E j r = true) (hi : ∀ r, E r r = false) : ∀ m, sumS E m = 2 * sumP E m
  | 0 => rfl
  | m + 1 => by
    have ih := sum_two hs hi m
    have e1 : sumS E (m + 1) = sumS E m + 2 * (List.range m).countP (E m) := by
      unfold sumS
      rw [List.range_succ, List.map_append, List.sum_append, List.map_singleton, List.sum_singleton]
      have a : ((List.range m).map fun u => (List.range m ++ [m]).countP (E u)) = (List.range m).map fun u => (List.range m).countP (E u) + (if E u m = true then 1 else 0) := List.map_congr_left fun u _ => by
        rw [List.countP_append, List.countP_singleton]
      have b := sum_add2 (fun u => (List.range m).countP (E u)) (fun u => if E u m = true then 1 else 0) (List.range m)
      have c := sum_ite (fun u => E u m) (List.range m)
      have d : (List.range m).countP (fun u => E u m) = (List.range m).countP (E m) := List.countP_congr fun v _ => ⟨fun h => hs _ _ h, fun h => hs _ _ h⟩
      rw [a, b, c, d, List.countP_append, List.countP_singleton, hi m]
      simp only [Bool.false_eq_true, if_false]
      omega
    have e2 : sumP E (m + 1) = sumP E m + (List.range m).countP (E m) := by
      unfold sumP
      rw [List.range_succ, List.map_append, List.sum_append, List.map_singleton, List.sum_singleton]
      have a : ((List.range m).map fun u => (List.range m ++ [m]).countP fun v => decide (u < v) && E u v) = (List.range m).map fun u => ((List.range m).countP fun v => decide (u < v) && E u v) + (if E u m = true then 1 else 0) := List.map_congr_left fun u hu => by
        have hum : u < m := List.mem_range.1 hu
        rw [List.countP_append, List.countP_singleton]
        simp [hum]
      have b := sum_add2 (fun u => (List.range m).countP fun v => decide (u < v) && E u v) (fun u => if E u m = true then 1 else 0) (List.range m)
      have c := sum_ite (fun u => E u m) (List.range m)
      have d : (List.range m).countP (fun u => E u m) = (List.range m).countP (E m) := List.countP_congr fun v _ => ⟨fun h => hs _ _ h, fun h => hs _ _ h⟩
      have f : (List.range m ++ [m]).countP (fun v => decide (m < v) && E m v) = 0 := List.countP_eq_zero.2 fun v hv => by
        rcases List.mem_append.1 hv with h | h
        · have := List.mem_range.1 h
          simp [show ¬ m < v by omega]
        · have : v = m := by simpa using h
          simp [this]
      rw [a, b, c, d, f]
      omega
    omega
theorem edN_sum (n : Nat) (E : Nat → Nat → Bool) : ∀ k, (edN n E k).length = ((List.range k).map fun u => (List.range n).countP fun v => decide (u < v) && E u v).sum
  | 0 => rfl
  | k + 1 => by
    rw [edN_succ, List.length_append, edN_sum n E k, List.range_succ, List.map_append, List.sum_append, List.map_singleton, List.sum_singleton]
    unfold edRow
    rw [List.length_map, ← List.countP_eq_length_filter]
/-- Twice the edges are the degrees. -/
theorem two_cntE {g : List (List Int)} (hg : GOk g) : totN g.length (ofG g) = 2 * cntE g g.length := by
  rw [cntE_edN hg g.length (Nat.le_refl _), edN_sum]
  exact sum_two (ofG_sym hg) (ofG_irr hg) g.length

end Go.Proofs.YtmakhapdlkbbnaaDoor

/- What a law's bytes read as. -/
namespace Go.Proofs.YtmakhapdlkbbnaaDoor
open Go.RowKit

def ArgB (w : World) (v : Value) (bs : List Int) : Prop := ∃ p c, v = .slice p bs.length c ∧ bs.length ≤ 9223372036854775807 ∧ (∀ x ∈ bs, 0 ≤ x ∧ x ≤ 255) ∧ Cl w p (bs.map (Value.int .u8))
theorem ArgB.below {w w' : World} {v : Value} {bs : List Int} (h : ArgB w v bs) (hb : Below w.heap.size w w') : ArgB w' v bs := by
  obtain ⟨p, c, h1, h2, h3, h4⟩ := h
  exact ⟨p, c, h1, h2, h3, h4.below hb⟩
theorem ArgB.get {w : World} {p : Option Addr} {n c : Nat} {bs : List Int} (h : ArgB w (.slice p n c) bs) {k : Nat} (hk : k < bs.length) :
    ∃ b o, p = some ⟨b, o, none⟩ ∧ w.cell? ⟨b, o + k, none⟩ = some (.int .u8 bs[k]) ∧ 0 ≤ bs[k] ∧ bs[k] ≤ 255 := by
  obtain ⟨p', c', e, _, h3, h4⟩ := h
  cases e
  rcases h4 with h4 | ⟨b, o, rfl, h5⟩
  · rw [List.map_eq_nil_iff] at h4
    subst h4
    simp at hk
  · refine ⟨b, o, rfl, h5 k _ (by simp [hk]), h3 _ (List.getElem_mem hk)⟩

end Go.Proofs.YtmakhapdlkbbnaaDoor

/- Walks: the laws' dice (big, roll, below). -/
namespace Go.Proofs.YtmakhapdlkbbnaaDoor
open Go.RowKit

structure BoxD (w : World) (b : Nat) (x y z : Value) : Prop where
  blk : w.heap[b]? = some (.cells #[x, y, z] 73 (0, 0))
section
variable {w w' : World} {b : Nat} {x y z : Value}
theorem BoxD.c0 (h : BoxD w b x y z) : w.cell? ⟨b, 0, none⟩ = some x := by unfold World.cell?; rw [h.blk]; rfl
theorem BoxD.c1 (h : BoxD w b x y z) : w.cell? ⟨b, 1, none⟩ = some y := by unfold World.cell?; rw [h.blk]; rfl
theorem BoxD.c2 (h : BoxD w b x y z) : w.cell? ⟨b, 2, none⟩ = some z := by unfold World.cell?; rw [h.blk]; rfl
theorem BoxD.free (h : BoxD w b x y z) (i : Nat) : w.frozen? ⟨b, i, none⟩ = false := by simp [World.frozen?, h.blk]
theorem BoxD.lt (h : BoxD w b x y z) : b < w.heap.size := lt_of_block h.blk
theorem BoxD.new (w : World) (x y z : Value) : BoxD (w.alloc (.cells #[x, y, z] 73)) w.heap.size x y z := ⟨heap_alloc_new w _⟩
theorem BoxD.to (h : BoxD w b x y z) (hk : w'.heap[b]? = w.heap[b]?) : BoxD w' b x y z := ⟨hk.trans h.blk⟩
theorem BoxD.s1 (h : BoxD w b x y z) (u : Value) : BoxD (w.setCell ⟨b, 1, none⟩ u) b x u z := ⟨by have := heap_setCell_same w b 1 _ _ u h.blk; simpa using this⟩
theorem BoxD.s2 (h : BoxD w b x y z) (u : Value) : BoxD (w.setCell ⟨b, 2, none⟩ u) b x y u := ⟨by have := heap_setCell_same w b 2 _ _ u h.blk; simpa using this⟩
theorem BoxD.keep (h : BoxD w b x y z) (hb : Below w.heap.size w w') : BoxD w' b x y z := h.to (hb.block b h.lt)
end

theorem grown_setD (w : World) (b i : Nat) (u : Value) : w.grownBy (w.setCell ⟨b, i, none⟩ u) (some b) :=
  ⟨rfl, rfl, rfl, by rw [World.size_setCell]; exact Nat.le_refl _, fun k _ hne => Below.heap_setCell _ _ _ _ (fun e => hne (by simp only at e; rw [e]))⟩

/-- The dice stand in block db: the bytes, how many were read, a number. -/
structure Dice (w0 w : World) (db : Nat) (bs : List Int) : Prop where
  ex : ∃ (bv : Value) (i : Nat) (h : Int), BoxD w db bv (.int .i64 i) (.int .u64 h) ∧ i ≤ bs.length ∧ ArgB w0 bv bs
  few : bs.length ≤ 4096
  lo : w0.heap.size ≤ db
  bel : Below w0.heap.size w0 w
theorem Dice.keep {w0 w w' : World} {db : Nat} {bs : List Int} (h : Dice w0 w db bs) (hb : Below w.heap.size w w') : Dice w0 w' db bs := by
  obtain ⟨bv, i, z, h1, h2, h3⟩ := h.ex
  exact ⟨⟨bv, i, z, h1.keep hb, h2, h3⟩, h.few, h.lo, h.bel.trans (hb.mono h.bel.size)⟩
theorem below_grownD {w0 w w' : World} {cb : Nat} (h : Below w0.heap.size w0 w) (hg : w.grownBy w' (some cb)) (hl : w0.heap.size ≤ cb) : Below w0.heap.size w0 w' :=
  ⟨hg.os.trans h.os, hg.tape.trans h.tape, hg.output.trans h.output, Nat.le_trans h.size hg.size, fun k hk => (hg.block k (Nat.lt_of_lt_of_le hk h.size) (fun e => by simp only [Option.some.injEq] at e; omega)).trans (h.block k hk)⟩
theorem andM (x : Int) : ∃ r : Nat, bits BinOp.and IntKind.u64 x 16777215 = (r : Int) ∧ r ≤ 16777215 := by
  refine ⟨(BitVec.ofInt 64 x &&& BitVec.ofInt 64 16777215).toNat, ?_, ?_⟩
  · show IntKind.u64.wrap ((BitVec.ofInt 64 x &&& BitVec.ofInt 64 16777215).toNat : Int) = _
    have h : (BitVec.ofInt 64 x &&& BitVec.ofInt 64 16777215).toNat ≤ 16777215 := by
      rw [BitVec.toNat_and]
      exact Nat.le_trans Nat.and_le_right (by decide)
    generalize (BitVec.ofInt 64 x &&& BitVec.ofInt 64 16777215).toNat = r at h
    simp [IntKind.wrap, IntKind.bits, IntKind.signed]
    omega
  · rw [BitVec.toNat_and]
    exact Nat.le_trans Nat.and_le_right (by decide)

set_option maxRecDepth 100000 in
theorem big_any (v : Value) (bs : List Int) (w : World) (h : ArgB w v bs) :
    Calls Tryd.prog 11 #[v] w fun e w' => e = .returned (.bool (decide (4096 < bs.length))) ∧ w = w' := by
  obtain ⟨p, c, rfl, hl, _⟩ := h
  go_enter Tryd.func11, Tryd.ntmps11
  go_wp2
  go_ret
  exact ⟨ret_bool (by simp; omega), rfl⟩

set_option maxRecDepth 100000 in
set_option maxHeartbeats 4000000 in
theorem below_any (w0 : World) (cb : Nat) (bs : List Int) (k : Nat) (n : Int) (hkn : n = k) (hkp : 0 < k) (hk : k ≤ 1000000) (w : World) (hc : Dice w0 w cb bs) :
    Calls Tryd.prog 26 #[.pointer (some ⟨cb, 0, none⟩), .int .i64 n] w fun e w' => ∃ r : Nat, e = .returned (.int .i64 (r : Int)) ∧ r < k ∧ Dice w0 w' cb bs ∧ w.grownBy w' (some cb) := by
  subst hkn
  have hk0 : ((k : Int) == 0) = false := by simp; omega
  have htm : ∀ r : Nat, Int.tmod (r : Int) (k : Int) = ((r % k : Nat) : Int) := fun r => (Int.ofNat_tmod r k).symm
  have HML : Hid (∀ r : Nat, r % k < k) := Lib.hid (fun r => Nat.mod_lt r hkp)
  obtain ⟨⟨bv, i, h, hb, hi, ha⟩, few, lo, bel⟩ := hc
  obtain ⟨bp, bc, e, ha2⟩ := id ha
  subst e
  have c2 := hb.c2
  have f2 := hb.free 2
  have HB := Lib.hid hb
  have HA := Lib.hid ha
  have HBEL := Lib.hid bel
  clear ha2 ha hb bel
  go_enter Tryd.func26, Tryd.ntmps26
  go_upto_region 1 with fail
  go_cut [14] (fun _ wx => ∃ h2 : Int, wx = w.setCell ⟨cb, 2, none⟩ (.int .u64 h2))
  case first =>
    go_wp2
    go_meet
    exact ⟨_, rfl⟩
  case rest =>
    obtain ⟨h2, rfl⟩ := hcut
    have HB2 := Lib.hid (HB.out.s2 (.int .u64 h2))
    have HG2 := Lib.hid (grown_setD w cb 2 (.int .u64 h2))
    have c2 := HB2.out.c2
    obtain ⟨w2, hw2⟩ : ∃ w2, w2 = w.setCell ⟨cb, 2, none⟩ (.int .u64 h2) := ⟨_, rfl⟩
    rw [← hw2] at c2 HB2 HG2 ⊢
    clear hw2 f2
    obtain ⟨r, hr1, hr⟩ := andM (h2 / 8589934592)
    have hrw : wrap64 (bits BinOp.and IntKind.u64 (h2 / 8589934592) 16777215) = (r : Int) := by rw [hr1]; unfold wrap64; omega
    have c0 := HB2.out.c0
    have c1 := HB2.out.c1
    go_upto_region 3 with fail
    go_cut [31] (fun s wx => s = .bool (decide (i < bs.length)) ∧ Below w2.heap.size w2 wx)
    case first =>
      go_region_held3 (fun w' => w'.cell? ⟨cb, 1, none⟩ = some (.int .i64 i) ∧ w'.cell? ⟨cb, 0, none⟩ = some (.slice bp bs.length bc))
        (first | go_keep | exact ⟨c1, c0⟩)
        (fail)
      all_goals go_wp2
      all_goals go_meet
      all_goals exact ⟨rfl, below_dN (Below.refl _ _) _⟩
    case rest =>
      obtain ⟨rfl, hb4⟩ := hcut
      have HB4 := Lib.hid (HB2.out.keep hb4)
      have HG4 := Lib.hid (grown_trans HG2.out (grown_of_below hb4 _))
      have HL4 := Lib.hid (below_grownD HBEL.out HG4.out lo)
      have c0 := HB4.out.c0
      have c1 := HB4.out.c1
      clear hb4 c2
      by_cases hlt : i < bs.length
      · obtain ⟨xb, xo, rfl, hcx, hx0, hx1⟩ := (HA.out.below HL4.out).get hlt
        generalize bs[i] = x at hcx hx0 hx1
        have hdt : decide (i < bs.length) = true := by simp [hlt]
        have e0 : (0 : Int) ≤ (i : Int) := by omega
        have e1 : (i : Int) < (bs.length : Int) := by omega
        obtain ⟨y, rfl⟩ : ∃ y : Nat, x = (y : Int) := ⟨x.toNat, by omega⟩
        have hwy : IntKind.i64.wrap (y : Int) = (y : Int) := by rw [IntKind.wrap_i64]; omega
        have hws : IntKind.i64.wrap ((r : Int) + (y : Int)) = ((r + y : Nat) : Int) := by rw [IntKind.wrap_i64]; omega
        go_upto_region 4 with fail
        go_cut [5] (fun s wx => s = .int .i64 ((r + y : Nat) : Int) ∧ Below wc.heap.size wc wx)
        case first =>
          go_region_held3 (fun w' => w'.cell? ⟨cb, 1, none⟩ = some (.int .i64 i) ∧ w'.cell? ⟨cb, 0, none⟩ = some (.slice (some ⟨xb, xo, none⟩) bs.length bc) ∧ w'.cell? ⟨xb, xo + i, none⟩ = some (.int .u8 (y : Int)))
            (first | go_keep | exact ⟨c1, c0, hcx⟩)
            (fail)
          all_goals go_wp2
          all_goals go_meet
          all_goals exact ⟨by first | rfl | exact val_int (by omega), below_dN (Below.refl _ _) _⟩
        case rest =>
          obtain ⟨rfl, hb5⟩ := hcut
          have HB5 := Lib.hid (HB4.out.keep hb5)
          have HG5 := Lib.hid (grown_trans HG4.out (grown_of_below hb5 _))
          have c1 := HB5.out.c1
          have f1 := HB5.out.free 1
          have htm2 := htm (r + y)
          clear hb5 hcx c0 htm
          generalize r + y = z at *
          go_wp2
          go_ret
          have HB6 := HB5.out.s1 (.int .i64 ((i + 1 : Nat) : Int))
          have HG6 := grown_trans HG5.out (grown_setD wc cb 1 (.int .i64 ((i + 1 : Nat) : Int)))
          exact ⟨z % k, by first | rfl | (rw [← htm2]; rfl), HML.out _, ⟨⟨_, i + 1, h2, HB6, by omega, HA.out⟩, few, lo, below_grownD HBEL.out HG6 lo⟩, HG6⟩
      · have hdt : decide (i < bs.length) = false := by simp [hlt]
        have htm2 := htm r
        go_wp2
        go_ret
        exact ⟨r % k, by first | rfl | (rw [← htm2]; rfl), HML.out _, ⟨⟨_, i, h2, HB4.out, hi, HA.out⟩, few, lo, HL4.out⟩, HG4.out⟩

end Go.Proofs.YtmakhapdlkbbnaaDoor
