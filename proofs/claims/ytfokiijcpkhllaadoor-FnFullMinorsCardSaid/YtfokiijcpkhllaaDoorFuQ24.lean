/- Plain: the greatest cliques, in the order in which both find them. -/
import Derived.Test.YtfokiijcpkhllaaDoorFuQ17
import Derived.Test.YtfokiijcpkhllaaDoorFuQ21
namespace Go.Proofs.YtfokiijcpkhllaaDoor

/-- What is found with a set, those that are left, and those that may not come. -/
def clF (E : Nat → Nat → Bool) : Nat → List Nat → List Nat → List Nat → List (List Nat)
  | 0, _, _, _ => []
  | k + 1, set, left, out => if left = [] ∧ out = [] then [set] else
    (List.range left.length).flatMap fun i => clF E k (set ++ [left.getD i 0]) ((left.drop (i + 1)).filter (E (left.getD i 0))) ((out ++ left.take i).filter (E (left.getD i 0)))
def clTo (E : Nat → Nat → Bool) (k : Nat) (set left out : List Nat) (m : Nat) : List (List Nat) :=
  (List.range m).flatMap fun i => clF E k (set ++ [left.getD i 0]) ((left.drop (i + 1)).filter (E (left.getD i 0))) ((out ++ left.take i).filter (E (left.getD i 0)))
theorem clTo_zero (E : Nat → Nat → Bool) (k : Nat) (set left out : List Nat) : clTo E k set left out 0 = [] := rfl
theorem clTo_succ (E : Nat → Nat → Bool) (k : Nat) (set left out : List Nat) (m : Nat) :
    clTo E k set left out (m + 1) = clTo E k set left out m ++ clF E k (set ++ [left.getD m 0]) ((left.drop (m + 1)).filter (E (left.getD m 0))) ((out ++ left.take m).filter (E (left.getD m 0))) := by
  simp [clTo, List.range_succ, List.flatMap_append]
theorem clF_one (E : Nat → Nat → Bool) (k : Nat) (set : List Nat) : clF E (k + 1) set [] [] = [set] := by simp [clF]
theorem clF_none (E : Nat → Nat → Bool) (k : Nat) (set out : List Nat) (h : out ≠ []) : clF E (k + 1) set [] out = [] := by simp [clF, h]
theorem clF_more (E : Nat → Nat → Bool) (k : Nat) (set left out : List Nat) (h : ¬ (left = [] ∧ out = [])) : clF E (k + 1) set left out = clTo E k set left out left.length := by
  rw [clF, if_neg h]
  rfl

theorem clF_len (E : Nat → Nat → Bool) : ∀ (k : Nat) (set left out : List Nat), (clF E k set left out).length ≤ 2 ^ left.length
  | 0, _, _, _ => Nat.zero_le _
  | k + 1, set, left, out => by
    by_cases h : left = [] ∧ out = []
    · obtain ⟨rfl, rfl⟩ := h
      rw [clF_one]
      exact Nat.le_refl _
    · rw [clF_more E k set left out h]
      have main : ∀ i, i ≤ left.length → (clTo E k set left out i).length + 2 ^ (left.length - i) ≤ 2 ^ left.length := by
        intro i
        induction i with
        | zero => intro _; rw [clTo_zero]; simp
        | succ i ih =>
          intro hi
          have h1 := ih (by omega)
          have h2 := clF_len E k (set ++ [left.getD i 0]) ((left.drop (i + 1)).filter (E (left.getD i 0))) ((out ++ left.take i).filter (E (left.getD i 0)))
          have h3 : ((left.drop (i + 1)).filter (E (left.getD i 0))).length ≤ left.length - (i + 1) := Nat.le_trans (List.length_filter_le _ _) (by rw [List.length_drop]; omega)
          have h4 := Nat.pow_le_pow_right (show 0 < 2 by decide) h3
          have h5 : 2 ^ (left.length - i) = 2 ^ (left.length - (i + 1)) * 2 := by
            rw [show left.length - i = left.length - (i + 1) + 1 by omega, Nat.pow_succ]
          rw [clTo_succ, List.length_append]
          omega
      exact Nat.le_trans (Nat.le_add_right _ _) (main left.length (Nat.le_refl _))
theorem clTo_len {E : Nat → Nat → Bool} {k : Nat} {set left out : List Nat} : ∀ {i : Nat}, i ≤ left.length → (clTo E k set left out i).length + 2 ^ (left.length - i) ≤ 2 ^ left.length
  | 0, _ => by rw [clTo_zero]; simp
  | i + 1, hi => by
    have h1 := clTo_len (E := E) (k := k) (set := set) (left := left) (out := out) (i := i) (by omega)
    have h2 := clF_len E k (set ++ [left.getD i 0]) ((left.drop (i + 1)).filter (E (left.getD i 0))) ((out ++ left.take i).filter (E (left.getD i 0)))
    have h3 : ((left.drop (i + 1)).filter (E (left.getD i 0))).length ≤ left.length - (i + 1) := Nat.le_trans (List.length_filter_le _ _) (by rw [List.length_drop]; omega)
    have h4 := Nat.pow_le_pow_right (show 0 < 2 by decide) h3
    have h5 : 2 ^ (left.length - i) = 2 ^ (left.length - (i + 1)) * 2 := by
      rw [show left.length - i = left.length - (i + 1) + 1 by omega, Nat.pow_succ]
    rw [clTo_succ, List.length_append]
    omega

theorem lexL_app : ∀ (s a b : List Nat), lexL (s ++ a) (s ++ b) ↔ lexL a b
  | [], _, _ => Iff.rfl
  | x :: s, a, b => by
    simp only [List.cons_append, lexL]
    rw [lexL_app s a b]
    exact ⟨fun h => h.elim (fun h => absurd h (Nat.lt_irrefl _)) fun h => h.2, fun h => .inr ⟨trivial, h⟩⟩

/-- Each goes on from the set by some that are left, in their order. -/
theorem clF_mem (E : Nat → Nat → Bool) : ∀ (k : Nat) (set left out : List Nat), left.Pairwise (· < ·) → ∀ x ∈ clF E k set left out, ∃ T, x = set ++ T ∧ T.Pairwise (· < ·) ∧ ∀ y ∈ T, y ∈ left
  | 0, _, _, _, _, _, h => by simp [clF] at h
  | k + 1, set, left, out, hr, x, h => by
    by_cases hh : left = [] ∧ out = []
    · obtain ⟨rfl, rfl⟩ := hh
      rw [clF_one] at h
      obtain rfl : x = set := by simpa using h
      exact ⟨[], by simp, by simp, by simp⟩
    · rw [clF_more E k set left out hh, clTo, List.mem_flatMap] at h
      obtain ⟨i, hi, h⟩ := h
      rw [List.mem_range] at hi
      have hg : left.getD i 0 = left[i] := by simp [hi]
      rw [hg] at h
      obtain ⟨T, rfl, h1, h2⟩ := clF_mem E k _ _ _ ((hr.sublist (List.drop_sublist _ _)).filter _) x h
      refine ⟨left[i] :: T, by simp, List.pairwise_cons.2 ⟨fun y hy => ?_, h1⟩, fun y hy => ?_⟩
      · have hm := (List.mem_filter.1 (h2 y hy)).1
        obtain ⟨j, hj, rfl⟩ := List.getElem_of_mem hm
        rw [List.length_drop] at hj
        rw [List.getElem_drop]
        exact List.pairwise_iff_getElem.1 hr i (i + 1 + j) hi (by omega) (by omega)
      · rcases List.mem_cons.1 hy with rfl | hy
        · exact List.getElem_mem hi
        · exact List.mem_of_mem_drop (List.mem_filter.1 (h2 y hy)).1
theorem clF_sorted (E : Nat → Nat → Bool) : ∀ (k : Nat) (set left out : List Nat), left.Pairwise (· < ·) → (clF E k set left out).Pairwise lexL
  | 0, _, _, _, _ => by simp [clF]
  | k + 1, set, left, out, hr => by
    by_cases hh : left = [] ∧ out = []
    · obtain ⟨rfl, rfl⟩ := hh
      rw [clF_one]
      simp
    · rw [clF_more E k set left out hh, clTo, List.pairwise_flatMap]
      refine ⟨fun i hi => clF_sorted E k _ _ _ ((hr.sublist (List.drop_sublist _ _)).filter _), ?_⟩
      refine List.Pairwise.imp_of_mem (fun {i j} hi hj hij x hx y hy => ?_) List.pairwise_lt_range
      rw [List.mem_range] at hi hj
      obtain ⟨T, rfl, _⟩ := clF_mem E k _ _ _ ((hr.sublist (List.drop_sublist _ _)).filter _) x hx
      obtain ⟨U, rfl, _⟩ := clF_mem E k _ _ _ ((hr.sublist (List.drop_sublist _ _)).filter _) y hy
      have h1 : left.getD i 0 = left[i] := by simp [hi]
      have h2 : left.getD j 0 = left[j] := by simp [hj]
      rw [List.append_assoc, List.append_assoc, lexL_app, h1, h2]
      exact .inl (List.pairwise_iff_getElem.1 hr i j hi hj hij)

/-- What CliquesOf finds. -/
def clsP (n : Nat) (E : Nat → Nat → Bool) : List (List Nat) := clF E (n + 1) [] (List.range n) []
theorem clsP_len (n : Nat) (E : Nat → Nat → Bool) : (clsP n E).length ≤ 2 ^ n := by
  have := clF_len E (n + 1) [] (List.range n) []
  rwa [List.length_range] at this
theorem clsP_mem {n : Nat} {E : Nat → Nat → Bool} {x : List Nat} (h : x ∈ clsP n E) : x.Pairwise (· < ·) ∧ ∀ y ∈ x, y < n := by
  obtain ⟨T, rfl, h1, h2⟩ := clF_mem E _ _ _ _ List.pairwise_lt_range x h
  exact ⟨by simpa using h1, fun y hy => List.mem_range.1 (h2 y (by simpa using hy))⟩
theorem clsP_sorted (n : Nat) (E : Nat → Nat → Bool) : (clsP n E).Pairwise lexL := clF_sorted E _ _ _ _ List.pairwise_lt_range

/-- -1, 0, 1: how two lists stand to each other. -/
noncomputable def cmpL (a b : List Nat) : Int := open Classical in if lexL a b then -1 else if lexL b a then 1 else 0
theorem cmpL_lt {a b : List Nat} : cmpL a b < 0 ↔ lexL a b := by
  unfold cmpL
  by_cases h : lexL a b
  · rw [if_pos h]; exact ⟨fun _ => h, fun _ => by decide⟩
  · rw [if_neg h]
    refine ⟨fun k => ?_, fun k => absurd k h⟩
    split at k <;> exact absurd k (by decide)

/-- A sorted arrangement of what was sorted strictly is the same. -/
theorem sorted_same {α : Type} (lt : α → α → Prop) (hirr : ∀ x, ¬ lt x x) (htr : ∀ {x y z}, lt x y → lt y z → lt x z) : ∀ (l m : List α), l.Perm m → l.Pairwise lt → m.Pairwise (fun x y => ¬ lt y x) → l = m
  | [], m, hp, _, _ => (List.Perm.nil_eq hp)
  | a :: l, [], hp, _, _ => absurd hp.length_eq (by simp)
  | a :: l, b :: m, hp, hl, hm => by
    have hab : a = b := by
      have h1 : b ∈ a :: l := hp.mem_iff.2 (by simp)
      have h2 : a ∈ b :: m := hp.mem_iff.1 (by simp)
      rcases List.mem_cons.1 h1 with h | h1
      · exact h.symm
      · rcases List.mem_cons.1 h2 with h | h2
        · exact h
        · exact absurd ((List.pairwise_cons.1 hl).1 b h1) ((List.pairwise_cons.1 hm).1 a h2)
    subst hab
    rw [sorted_same lt hirr htr l m hp.cons_inv hl.of_cons hm.of_cons]

end Go.Proofs.YtfokiijcpkhllaaDoor

/- Plain: the sets of so many numbers in turn; the least set that meets all sets; sets that touch. -/
namespace Go.Proofs.YtfokiijcpkhllaaDoor

def lastp (o : List Nat) : Nat := match o.getLast? with
  | none => 0
  | some x => x + 1
theorem lastp_snoc (o : List Nat) (x : Nat) : lastp (o ++ [x]) = x + 1 := by simp [lastp]
theorem snoc_or (o : List Nat) : o = [] ∨ ∃ o' x, o = o' ++ [x] := by
  rcases List.eq_nil_or_concat o with h | ⟨a, b, h⟩
  · exact .inl h
  · exact .inr ⟨a, b, by rw [h]; simp⟩
theorem lastp_le {o : List Nat} (h : o.Pairwise (· < ·)) {v : Nat} : (∀ a ∈ o, a < v) ↔ lastp o ≤ v := by
  rcases snoc_or o with rfl | ⟨o', x, rfl⟩
  · simp [lastp]
  · rw [lastp_snoc]
    rw [List.pairwise_append] at h
    constructor
    · intro k
      have := k x (by simp)
      omega
    · intro k a ha
      rcases List.mem_append.1 ha with e | e
      · have := h.2.2 a e x (by simp)
        omega
      · have : a = x := by simpa using e
        omega
def extS (n : Nat) (o : List Nat) : List (List Nat) := ((List.range n).filter fun v => decide (lastp o ≤ v)).map fun v => o ++ [v]
def setsL (n : Nat) : Nat → List (List Nat)
  | 0 => [[]]
  | k + 1 => (setsL n k).flatMap (extS n)
theorem cand_snoc {n k : Nat} {o : List Nat} {v : Nat} : Cand n 0 (k + 1) (o ++ [v]) ↔ Cand n 0 k o ∧ v < n ∧ lastp o ≤ v := by
  constructor
  · intro h
    have h1 := List.pairwise_append.1 h.ris
    refine ⟨⟨h1.1, fun x hx => h.inn x (by simp [hx]), by have := h.len; simp at this; omega⟩, (h.inn v (by simp)).2, (lastp_le h1.1).1 fun a ha => h1.2.2 a ha v (by simp)⟩
  · rintro ⟨h, h1, h2⟩
    refine ⟨List.pairwise_append.2 ⟨h.ris, by simp, fun a ha b hb => ?_⟩, fun x hx => ?_, by rw [List.length_append, h.len]; rfl⟩
    · have : b = v := by simpa using hb
      rw [this]
      exact (lastp_le h.ris).2 h2 a ha
    · rcases List.mem_append.1 hx with e | e
      · exact h.inn x e
      · have : x = v := by simpa using e
        omega
theorem mem_setsL {n : Nat} : ∀ (k : Nat) (T : List Nat), T ∈ setsL n k ↔ Cand n 0 k T
  | 0, T => by
    simp only [setsL, List.mem_singleton]
    exact ⟨fun h => h ▸ cand_nil n 0, fun h => cand_zero h⟩
  | k + 1, T => by
    simp only [setsL, List.mem_flatMap, extS, List.mem_map, List.mem_filter, List.mem_range, decide_eq_true_eq]
    constructor
    · rintro ⟨o, ho, v, ⟨h1, h2⟩, rfl⟩
      exact cand_snoc.2 ⟨(mem_setsL k o).1 ho, h1, h2⟩
    · intro h
      rcases snoc_or T with rfl | ⟨o, v, rfl⟩
      · have := h.len
        simp at this
      · obtain ⟨h1, h2, h3⟩ := cand_snoc.1 h
        exact ⟨o, (mem_setsL k o).2 h1, v, ⟨h2, h3⟩, rfl⟩
theorem lexL_longS : ∀ {a b : List Nat} (s t : List Nat), a.length = b.length → lexL a b → lexL (a ++ s) (b ++ t)
  | [], [], _, _, _, h => h.elim
  | a :: l, b :: m, s, t, e, h => by
    simp only [List.cons_append, lexL] at h ⊢
    rcases h with h | ⟨h1, h2⟩
    · exact .inl h
    · exact .inr ⟨h1, lexL_longS s t (by simpa using e) h2⟩
theorem setsL_sorted {n : Nat} : ∀ k, (setsL n k).Pairwise lexL
  | 0 => by simp [setsL]
  | k + 1 => by
    rw [setsL, List.pairwise_flatMap]
    refine ⟨fun o _ => ?_, ?_⟩
    · unfold extS
      rw [List.pairwise_map]
      refine List.Pairwise.imp (fun {v w} h => ?_) (List.Pairwise.filter _ List.pairwise_lt_range)
      rw [lexL_app]
      exact .inl h
    · refine (setsL_sorted k).imp_of_mem fun {a b} ha hb h x hx y hy => ?_
      obtain ⟨v, _, rfl⟩ := List.mem_map.1 hx
      obtain ⟨w, _, rfl⟩ := List.mem_map.1 hy
      exact lexL_longS _ _ (((mem_setsL k a).1 ha).len.trans ((mem_setsL k b).1 hb).len.symm) h
theorem cand_bitsM {n k : Nat} (hn : n ≤ 16) {T : List Nat} (h : Cand n 0 k T) : bitsOf (mask (natInts T)) = T := bitsOf_maskN h.ris fun x hx => by have := (h.inn x hx).2; omega
theorem setsL_len {n : Nat} (hn : n ≤ 16) (k : Nat) : (setsL n k).length ≤ 65536 := by
  have h1 : ((setsL n k).map fun T => mask (natInts T)).Nodup := by
    unfold List.Nodup
    rw [List.pairwise_map]
    refine (setsL_sorted k).imp_of_mem fun {a b} ha hb h e => ?_
    have h2 := cand_bitsM hn ((mem_setsL k a).1 ha)
    rw [e, cand_bitsM hn ((mem_setsL k b).1 hb)] at h2
    rw [h2] at h
    exact lexL_irrefl _ h
  have h2 := nodup_le (2 ^ n) _ h1 fun x hx => by
    obtain ⟨T, hT, rfl⟩ := List.mem_map.1 hx
    exact cand_lt ((mem_setsL k T).1 hT)
  rw [List.length_map] at h2
  have h3 : 2 ^ n ≤ 2 ^ 16 := Nat.pow_le_pow_right (by decide) hn
  have h4 : (2 : Nat) ^ 16 = 65536 := by decide
  omega
theorem cand_room {n k : Nat} {T : List Nat} (h : Cand n 0 k T) : k ≤ n := by
  have := nodup_le n T (h.ris.imp fun {a b} k => Nat.ne_of_lt k) fun x hx => (h.inn x hx).2
  rw [← h.len]; exact this
theorem lexL_asymS {a b : List Nat} (h : lexL a b) : ¬ lexL b a := fun k => lexL_irrefl _ (lexL_trans h k)
/-- The first one in turn is the least one. -/
theorem first_least {P : Nat → Prop} {n k i : Nat} (hn : n ≤ 16) (hno : ∀ m, m < k → ∀ T ∈ setsL n m, ¬ P (mask (natInts T))) (hi : i < (setsL n k).length) (hP : P (mask (natInts (setsL n k)[i])))
    (hb : ∀ j (hj : j < (setsL n k).length), j < i → ¬ P (mask (natInts (setsL n k)[j]))) : LeastP P n (mask (natInts (setsL n k)[i])) := by
  have hc := (mem_setsL k _).1 (List.getElem_mem hi)
  refine ⟨cand_lt hc, hP, fun t ht hPt hl => ?_⟩
  rw [cand_bitsM hn hc] at hl
  obtain ⟨hct, ht16⟩ := cand_bits hn ht
  have hmt := (mem_setsL _ _).2 hct
  have hPt' : P (mask (natInts (bitsOf t))) := by rw [mask_bitsOf ht16]; exact hPt
  rcases hl with hl | ⟨hl1, hl2⟩
  · exact hno _ (by rw [hc.len] at hl; exact hl) _ hmt hPt'
  · rw [hl1, hc.len] at hmt
    obtain ⟨j, hj, e⟩ := List.getElem_of_mem hmt
    rw [← e] at hl2 hPt'
    by_cases h1 : j < i
    · exact hb j hj h1 hPt'
    · by_cases h2 : j = i
      · subst h2
        exact lexL_irrefl _ hl2
      · exact lexL_asymS hl2 (List.pairwise_iff_getElem.1 (setsL_sorted k) i j hi hj (by omega))
theorem none_all {P : Nat → Prop} {n : Nat} (hn : n ≤ 16) (hno : ∀ m, m < n + 1 → ∀ T ∈ setsL n m, ¬ P (mask (natInts T))) : ∀ t, t < 2 ^ n → ¬ P t := fun t ht hP => by
  obtain ⟨hct, ht16⟩ := cand_bits hn ht
  have := cand_room hct
  refine hno _ (by omega) _ ((mem_setsL _ _).2 hct) ?_
  rw [mask_bitsOf ht16]; exact hP

/-- A set that meets all sets. -/
def CovN (S : List (List Int)) (s : Nat) : Prop := ∀ j, j < S.length → ∃ i, s.testBit i = true ∧ (i : Int) ∈ row S j
/-- Two sets touch. -/
def TouchP (g : List (List Int)) (A B : List Int) : Prop := ∃ x ∈ A, x ∈ B ∨ ∃ y ∈ B, x ∈ row g y.toNat
def BrTo (g S : List (List Int)) (i : Nat) : Prop := ∀ a, a < i → ConnS g (row S a) ∧ ∀ b, b < a → TouchP g (row S b) (row S a)
def BrS (g S : List (List Int)) : Prop := (GOk g ∧ S.length ≤ 80) ∧ BrTo g S S.length
theorem brTo_step {g S : List (List Int)} {i : Nat} (h : BrTo g S i) (h1 : ConnS g (row S i)) (h2 : ∀ b, b < i → TouchP g (row S b) (row S i)) : BrTo g S (i + 1) := fun a ha => by
  by_cases e : a < i
  · exact h a e
  · obtain rfl : a = i := by omega
    exact ⟨h1, h2⟩
def CvS (g S : List (List Int)) (ys : List Int) : Prop :=
  (BrS g S ∧ ((∃ s, LeastP (CovN S) g.length s ∧ ys = natInts (bitsOf s)) ∨ ((∀ t, t < 2 ^ g.length → ¬ CovN S t) ∧ ys = []))) ∨ (¬ BrS g S ∧ ys = [])
theorem cvS_det {g S : List (List Int)} {ys zs : List Int} (h : CvS g S ys) (k : CvS g S zs) : ys = zs := by
  rcases h with ⟨h, h2⟩ | ⟨h, rfl⟩ <;> rcases k with ⟨k, k2⟩ | ⟨k, rfl⟩
  · rcases h2 with ⟨s, h3, rfl⟩ | ⟨h3, rfl⟩ <;> rcases k2 with ⟨t, k3, rfl⟩ | ⟨k3, rfl⟩
    · rw [leastP_det h.1.1.le h3 k3]
    · exact absurd h3.2.1 (k3 _ h3.1)
    · exact absurd k3.2.1 (h3 _ k3.1)
    · rfl
  · exact absurd h k
  · exact absurd k h
  · rfl

end Go.Proofs.YtfokiijcpkhllaaDoor

/- Walks: the program's test whether sets touch, and whether they are a bramble. -/
namespace Go.Proofs.YtfokiijcpkhllaaDoor
open Go.RowKit

def TouchM (E : Nat → Nat → Bool) (a b : Nat) : Prop := (∃ i, a.testBit i = true ∧ b.testBit i = true) ∨ ∃ v u, a.testBit v = true ∧ b.testBit u = true ∧ E v u = true
theorem and_zero_iff {a b : Nat} : a &&& b = 0 ↔ ∀ i, ¬ (a.testBit i = true ∧ b.testBit i = true) := by
  constructor
  · intro h i ⟨h1, h2⟩
    have := congrArg (fun x => x.testBit i) h
    simp [h1, h2] at this
  · intro h
    refine Nat.eq_of_testBit_eq fun i => ?_
    rw [Nat.testBit_and, Nat.zero_testBit, Bool.eq_false_iff]
    intro k
    rw [Bool.and_eq_true] at k
    exact h i k


theorem touch_mask {g : List (List Int)} (hg : GOk g) {A B : List Int} (hA : SetIn g.length A) (hB : SetIn g.length B) : TouchM (ofG g) (mask B) (mask A) ↔ TouchP g A B := by
  have key : ∀ (C : List Int), SetIn g.length C → ∀ i : Nat, (mask C).testBit i = true ↔ (i : Int) ∈ C := fun C hC i => by
    rw [testBit_mask, List.any_eq_true]
    constructor
    · rintro ⟨x, hx, e⟩
      have h1 := (hC.1 x hx).1
      have h2 : x.toNat = i := by simpa using e
      have : (i : Int) = x := by omega
      rw [this]; exact hx
    · intro h
      exact ⟨_, h, by simp⟩
  unfold TouchM TouchP
  constructor
  · rintro (⟨i, h1, h2⟩ | ⟨v, u, h1, h2, h3⟩)
    · exact ⟨i, (key A hA i).1 h2, .inl ((key B hB i).1 h1)⟩
    · unfold ofG at h3
      exact ⟨u, (key A hA u).1 h2, .inr ⟨v, (key B hB v).1 h1, by simpa using h3⟩⟩
  · rintro ⟨x, hx, h⟩
    have hx0 := (hA.1 x hx).1
    obtain ⟨i, rfl⟩ : ∃ i : Nat, x = (i : Int) := ⟨x.toNat, by omega⟩
    rcases h with h | ⟨y, hy, h⟩
    · exact .inl ⟨i, (key B hB i).2 h, (key A hA i).2 hx⟩
    · have hy0 := (hB.1 y hy).1
      obtain ⟨j, rfl⟩ : ∃ j : Nat, y = (j : Int) := ⟨y.toNat, by omega⟩
      exact .inr ⟨j, i, (key B hB j).2 hy, (key A hA i).2 hx, by unfold ofG; simpa using h⟩


end Go.Proofs.YtfokiijcpkhllaaDoor
