/- Plain facts: the greatest cliques are cliques that can not be made greater, and all of them are found. -/
import Derived.Test.YtfokiijcpkhllaaDoorFuQ24
import Derived.Test.YtfokiijcpkhllaaDoorFuQ34
import Derived.Test.YtfokiijcpkhllaaDoorFuQ35
import Derived.Test.YtfokiijcpkhllaaDoorFuQ7
import Derived.Test.YtfokiijcpkhllaaDoorFuQ32
namespace Go.Proofs.YtfokiijcpkhllaaDoor

/-- A clique within left, to which nothing of left or out can be put. -/
structure ClqM (E : Nat → Nat → Bool) (left out T : List Nat) : Prop where
  inl : ∀ y ∈ T, y ∈ left
  clq : T.Pairwise fun a b => E a b = true
  most : ∀ y, y ∈ left ∨ y ∈ out → y ∉ T → ∃ t ∈ T, E t y = false
theorem clF_sound {E : Nat → Nat → Bool} : ∀ (k : Nat) (set left out : List Nat), ∀ x ∈ clF E k set left out, ∃ T, x = set ++ T ∧ ClqM E left out T
  | 0, _, _, _, _, h => by simp [clF] at h
  | k + 1, set, left, out, x, h => by
    by_cases hh : left = [] ∧ out = []
    · obtain ⟨rfl, rfl⟩ := hh
      rw [clF_one] at h
      obtain rfl : x = set := by simpa using h
      exact ⟨[], by simp, ⟨by simp, by simp, by simp⟩⟩
    · rw [clF_more E k set left out hh, clTo, List.mem_flatMap] at h
      obtain ⟨i, hi, h⟩ := h
      rw [List.mem_range] at hi
      have hg : left.getD i 0 = left[i] := by simp [hi]
      rw [hg] at h
      obtain ⟨T, rfl, hT⟩ := clF_sound k _ _ _ x h
      refine ⟨left[i] :: T, by simp, ⟨fun y hy => ?_, List.pairwise_cons.2 ⟨fun y hy => (List.mem_filter.1 (hT.inl y hy)).2, hT.clq⟩, fun y hy hn => ?_⟩⟩
      · rcases List.mem_cons.1 hy with rfl | hy
        · exact List.getElem_mem hi
        · exact List.mem_of_mem_drop (List.mem_filter.1 (hT.inl y hy)).1
      · cases hE : E left[i] y
        · exact ⟨_, List.mem_cons_self .., hE⟩
        · have hne : y ≠ left[i] := fun e => hn (by rw [e]; exact List.mem_cons_self ..)
          have hnT : y ∉ T := fun e => hn (List.mem_cons_of_mem _ e)
          have hy2 : y ∈ (left.drop (i + 1)).filter (E left[i]) ∨ y ∈ (out ++ left.take i).filter (E left[i]) := by
            rcases hy with hy | hy
            · obtain ⟨j, hj, rfl⟩ := List.getElem_of_mem hy
              by_cases h1 : j < i
              · refine .inr (List.mem_filter.2 ⟨List.mem_append_right _ ?_, hE⟩)
                have := List.getElem_mem (l := left.take i) (n := j) (by rw [List.length_take]; omega)
                rwa [List.getElem_take] at this
              · by_cases h2 : j = i
                · subst h2; exact absurd rfl hne
                · refine .inl (List.mem_filter.2 ⟨?_, hE⟩)
                  have := List.getElem_mem (l := left.drop (i + 1)) (n := j - (i + 1)) (by rw [List.length_drop]; omega)
                  rw [List.getElem_drop] at this
                  have e : i + 1 + (j - (i + 1)) = j := by omega
                  simpa [e] using this
            · exact .inr (List.mem_filter.2 ⟨List.mem_append_left _ hy, hE⟩)
          obtain ⟨t, ht, he⟩ := hT.most y hy2 hnT
          exact ⟨t, List.mem_cons_of_mem _ ht, he⟩
theorem clF_all {E : Nat → Nat → Bool} (hirr : ∀ v, E v v = false) : ∀ (k : Nat) (set left out T : List Nat), left.length < k → left.Pairwise (· < ·) → T.Pairwise (· < ·) → ClqM E left out T → set ++ T ∈ clF E k set left out
  | 0, _, _, _, _, h, _, _, _ => absurd h (Nat.not_lt_zero _)
  | k + 1, set, left, out, [], _, _, _, hT => by
    have h1 : left = [] := List.eq_nil_iff_forall_not_mem.2 fun y hy => by
      obtain ⟨t, ht, _⟩ := hT.most y (.inl hy) (by simp)
      cases ht
    have h2 : out = [] := List.eq_nil_iff_forall_not_mem.2 fun y hy => by
      obtain ⟨t, ht, _⟩ := hT.most y (.inr hy) (by simp)
      cases ht
    subst h1 h2
    rw [clF_one]
    simp
  | k + 1, set, left, out, v :: T, hk, hl, hs, hT => by
    have hv := hT.inl v (List.mem_cons_self ..)
    obtain ⟨i, hi, rfl⟩ := List.getElem_of_mem hv
    have hne : ¬ (left = [] ∧ out = []) := fun h => by rw [h.1] at hi; simp at hi
    rw [clF_more E k set left out hne, clTo, List.mem_flatMap]
    refine ⟨i, List.mem_range.2 hi, ?_⟩
    have hg : left.getD i 0 = left[i] := by simp [hi]
    rw [hg]
    have hs1 := List.pairwise_cons.1 hs
    have hc1 := List.pairwise_cons.1 hT.clq
    have hlen : ((left.drop (i + 1)).filter (E left[i])).length < k := by
      have := List.length_filter_le (E left[i]) (left.drop (i + 1))
      rw [List.length_drop] at this
      omega
    have key : ClqM E ((left.drop (i + 1)).filter (E left[i])) ((out ++ left.take i).filter (E left[i])) T := by
      refine ⟨fun y hy => ?_, hc1.2, fun y hy hn => ?_⟩
      · obtain ⟨j, hj, rfl⟩ := List.getElem_of_mem (hT.inl y (List.mem_cons_of_mem _ hy))
        have hij : i < j := Decidable.byContradiction fun h => by
          have h3 := hs1.1 _ hy
          by_cases e : j = i
          · subst e; omega
          · have := List.pairwise_iff_getElem.1 hl j i hj hi (by omega)
            omega
        refine List.mem_filter.2 ⟨?_, hc1.1 _ hy⟩
        have := List.getElem_mem (l := left.drop (i + 1)) (n := j - (i + 1)) (by rw [List.length_drop]; omega)
        rw [List.getElem_drop] at this
        have e : i + 1 + (j - (i + 1)) = j := by omega
        simpa [e] using this
      · have hE : E left[i] y = true := by
          rcases hy with hy | hy
          · exact (List.mem_filter.1 hy).2
          · exact (List.mem_filter.1 hy).2
        have hy2 : y ∈ left ∨ y ∈ out := by
          rcases hy with hy | hy
          · exact .inl (List.mem_of_mem_drop (List.mem_filter.1 hy).1)
          · rcases List.mem_append.1 (List.mem_filter.1 hy).1 with h | h
            · exact .inr h
            · exact .inl (List.mem_of_mem_take h)
        have hyn : y ∉ left[i] :: T := fun h => by
          rcases List.mem_cons.1 h with e | h
          · rw [e, hirr] at hE; cases hE
          · exact hn h
        obtain ⟨t, ht, he⟩ := hT.most y hy2 hyn
        rcases List.mem_cons.1 ht with rfl | ht
        · rw [hE] at he; cases he
        · exact ⟨t, ht, he⟩
    have := clF_all hirr k (set ++ [left[i]]) _ ((out ++ left.take i).filter (E left[i])) T hlen ((hl.sublist (List.drop_sublist _ _)).filter _) hs1.2 key
    simpa using this

end Go.Proofs.YtfokiijcpkhllaaDoor

/- Plain: the greatest full minor: what the search finds, cliques, the width. -/
namespace Go.Proofs.YtfokiijcpkhllaaDoor

/-- The word of some sets. -/
noncomputable def wordB (n m : Nat) (B : Nat → Nat → Prop) : List Nat := (List.range n).map fun v => ((List.range m).find? fun i => dec (B i v)).elim 0 (· + 1)
theorem wordB_length (n m : Nat) (B : Nat → Nat → Prop) : (wordB n m B).length = n := by simp [wordB]
theorem wordB_le {n m : Nat} {B : Nat → Nat → Prop} : ∀ c ∈ wordB n m B, c ≤ m := fun c hc => by
  obtain ⟨v, _, rfl⟩ := List.mem_map.1 hc
  cases h : (List.range m).find? fun i => dec (B i v) with
  | none => exact Nat.zero_le _
  | some i =>
    have := List.mem_range.1 (List.mem_of_find?_eq_some h)
    show i + 1 ≤ m
    omega
theorem mem_wordB {R : Nat → Nat → Prop} {n m : Nat} {B : Nat → Nat → Prop} (h : KM R m B) (hn : ∀ i, i < m → ∀ x, B i x → x < n) {i x : Nat} (hi : i < m) : x ∈ setW (wordB n m B) i ↔ B i x := by
  rw [mem_setW, wordB_length]
  have hat : x < n → (wordB n m B).getD x 0 = ((List.range m).find? fun i => dec (B i x)).elim 0 (· + 1) := fun hx => by simp [wordB, hx]
  constructor
  · rintro ⟨hx, h2⟩
    rw [hat hx] at h2
    cases hf : (List.range m).find? fun i => dec (B i x) with
    | none => rw [hf] at h2; exact absurd h2 (by show ¬ 0 = i + 1; omega)
    | some j =>
      rw [hf] at h2
      have e : j + 1 = i + 1 := h2
      obtain rfl : j = i := by omega
      have hz := List.find?_some hf
      exact dec_iff.1 hz
  · intro hb
    have hx := hn i hi x hb
    refine ⟨hx, ?_⟩
    rw [hat hx]
    cases hf : (List.range m).find? fun i => dec (B i x) with
    | none => exact absurd (dec_true hb) (List.find?_eq_none.1 hf i (List.mem_range.2 hi))
    | some j =>
      have hj := List.mem_range.1 (List.mem_of_find?_eq_some hf)
      have hz := List.find?_some hf
      have hbj : B j x := dec_iff.1 hz
      rw [h.dis j hj i hi x hbj hb]
      rfl
/-- Each two vertices of a list whose splits have an edge are joined in it. -/
theorem connL_of_split {E : Nat → Nat → Bool} {L : List Nat} (h0 : L ≠ []) (h : ∀ P : Nat → Prop, (∃ x, x ∈ L ∧ P x) → (∃ x, x ∈ L ∧ ¬ P x) → ∃ x y, x ∈ L ∧ y ∈ L ∧ P x ∧ ¬ P y ∧ E x y = true) : ConnL E L := by
  refine connL_of h0 fun x hx y hy => Classical.byContradiction fun hno => ?_
  obtain ⟨a, b, ha, hb, hpa, hpb, he⟩ := h (fun t => Rch E (· ∈ L) x t) ⟨x, hx, .base⟩ ⟨y, hy, hno⟩
  exact hpb (.step hpa he hb)
theorem fit_of_km {g : List (List Int)} {m : Nat} {F : Nat → Nat → Bool} (hF : ∀ i k, i < m → k < m → (F i k = true ↔ i ≠ k)) {B : Nat → Nat → Prop} (h : KM (adjR g) m B) (hn : ∀ i, i < m → ∀ x, B i x → x < g.length) : FitW m (ofG g) F (wordB g.length m B) := by
  refine ⟨fun k hk => ?_, fun i hi k hk hE => ?_⟩
  · refine connL_of_split ?_ fun P h1 h2 => ?_
    · obtain ⟨x, hx⟩ := h.ne k hk
      exact List.ne_nil_of_mem ((mem_wordB h hn hk).2 hx)
    · obtain ⟨x, hx, hpx⟩ := h1
      obtain ⟨y, hy, hpy⟩ := h2
      obtain ⟨a, b, h3, h4, h5, h6, h7⟩ := h.conn k hk P ⟨x, (mem_wordB h hn hk).1 hx, hpx⟩ ⟨y, (mem_wordB h hn hk).1 hy, hpy⟩
      exact ⟨a, b, (mem_wordB h hn hk).2 h3, (mem_wordB h hn hk).2 h4, h5, h6, decide_eq_true h7⟩
  · obtain ⟨x, y, h1, h2, h3⟩ := h.jn i hi k hk ((hF i k hi hk).1 hE)
    exact ⟨x, (mem_wordB h hn hi).2 h1, y, (mem_wordB h hn hk).2 h2, decide_eq_true h3⟩
theorem km_of_fit {g : List (List Int)} {m : Nat} {F : Nat → Nat → Bool} (hg : GOk g) (hF : ∀ i k, i < m → k < m → (F i k = true ↔ i ≠ k)) {w : List Nat} (h : FitW m (ofG g) F w) : KM (adjR g) m fun i x => x ∈ setW w i where
  ne i hi := List.exists_mem_of_ne_nil _ (h.1 i hi).1
  conn i hi P h1 h2 := by
    obtain ⟨x, y, a, b, c, d, e⟩ := connL_split (ofG_sym hg) (h.1 i hi) P h1 h2
    unfold ofG at e
    exact ⟨x, y, a, b, c, d, of_decide_eq_true (p := ((y : Int) ∈ row g x)) e⟩
  dis i _ j _ x hx hy := setW_disj hx hy
  jn i hi j hj hij := by
    obtain ⟨x, hx, y, hy, e⟩ := h.2 i hi j hj ((hF i j hi hj).2 hij)
    unfold ofG at e
    exact ⟨x, y, hx, hy, of_decide_eq_true (p := ((y : Int) ∈ row g x)) e⟩
/-- A full minor of so many. -/
def HasK (g : List (List Int)) (m : Nat) : Prop := ∃ B, KM (adjR g) m B ∧ ∀ i, i < m → ∀ x, B i x → x < g.length
theorem hasK_of {g : List (List Int)} (hg : GOk g) {m : Nat} (hm : 2 ≤ m) {B : Nat → Nat → Prop} (h : KM (adjR g) m B) : HasK g m := ⟨B, h, fun i hi x hx => by
  obtain ⟨y, hy⟩ := h.near hm hi hx
  exact adjR_lt hg hy⟩
theorem hasK_one {g : List (List Int)} (hg : GOk g) : HasK g 1 := ⟨fun _ x => x = 0, ⟨fun i _ => ⟨0, rfl⟩, fun i _ P h1 h2 => by
  obtain ⟨x, rfl, hx⟩ := h1
  obtain ⟨y, rfl, hy⟩ := h2
  exact absurd hx hy, fun i hi j hj _ _ _ => by omega, fun i hi j hj hij => absurd (show i = j by omega) hij⟩, fun i _ x hx => by have := hg.pos; omega⟩
theorem hasK_less {g : List (List Int)} {m k : Nat} (h : HasK g m) (hk : k ≤ m) : HasK g k := by
  obtain ⟨B, h, hn⟩ := h
  exact ⟨B, ⟨fun i hi => h.ne i (by omega), fun i hi => h.conn i (by omega), fun i hi j hj => h.dis i (by omega) j (by omega), fun i hi j hj => h.jn i (by omega) j (by omega)⟩, fun i hi => hn i (by omega)⟩
theorem found_iff {g : List (List Int)} (hg : GOk g) {m : Nat} {F : Nat → Nat → Bool} (hF : ∀ i k, i < m → k < m → (F i k = true ↔ i ≠ k)) : (∃ w, findN m (FitW m (ofG g) F) g.length [] = some w) ↔ HasK g m := by
  constructor
  · rintro ⟨w, hw⟩
    obtain ⟨h1, u, h2, h3, _⟩ := findN_some _ _ _ hw
    refine ⟨_, km_of_fit hg hF h1, fun i hi x hx => ?_⟩
    have := (mem_setW.1 hx).1
    rw [h2, List.nil_append, h3] at this
    exact this
  · rintro ⟨B, h, hn⟩
    have hfit := fit_of_km hF h hn
    cases hf : findN m (FitW m (ofG g) F) g.length [] with
    | some w => exact ⟨w, rfl⟩
    | none =>
      refine absurd hfit ?_
      have := findN_none (fun w h => fitW_has h) _ _ hf (wordB g.length m B) (wordB_length _ _ _) wordB_le
      rwa [List.nil_append] at this
theorem fullG_joins {m : Nat} : ∀ i k, i < m → k < m → (ofG (fullG m) i k = true ↔ i ≠ k) := fun i k hi hk => by
  unfold ofG
  rw [decide_eq_true_eq]
  constructor
  · intro h
    obtain ⟨j, e, _, h2⟩ := (mem_matG hi).1 h
    obtain rfl : j = k := by omega
    exact of_decide_eq_true h2
  · intro h
    exact (mem_matG hi).2 ⟨k, rfl, hk, decide_eq_true h⟩
theorem nodup_get {L : List Nat} (hd : L.Nodup) {i j : Nat} (hi : i < L.length) (hj : j < L.length) (e : L[i] = L[j]) : i = j := Classical.byContradiction fun hne => by
  rcases Nat.lt_or_gt_of_ne hne with hlt | hlt
  · exact List.pairwise_iff_getElem.1 hd i j hi hj hlt e
  · exact List.pairwise_iff_getElem.1 hd j i hj hi hlt e.symm
/-- A clique is a full minor. -/
theorem hasK_clique {g : List (List Int)} {L : List Nat} (hd : L.Nodup) (hL : ∀ x ∈ L, x < g.length) (hc : ∀ x ∈ L, ∀ y ∈ L, x ≠ y → ofG g x y = true) : HasK g L.length := by
  refine ⟨fun i x => L[i]? = some x, ⟨fun i hi => ⟨L[i], List.getElem?_eq_getElem hi⟩, fun i hi P h1 h2 => ?_, fun i hi j hj x hx hy => ?_, fun i hi j hj hij => ?_⟩, fun i hi x hx => hL x (List.mem_of_getElem? hx)⟩
  · obtain ⟨x, hx, hpx⟩ := h1
    obtain ⟨y, hy, hpy⟩ := h2
    rw [hx] at hy
    cases hy
    exact absurd hpx hpy
  · rw [List.getElem?_eq_getElem hi] at hx
    rw [List.getElem?_eq_getElem hj] at hy
    exact nodup_get hd hi hj (Option.some.inj (hx.trans hy.symm))
  · refine ⟨L[i], L[j], List.getElem?_eq_getElem hi, List.getElem?_eq_getElem hj, ?_⟩
    have := hc _ (List.getElem_mem hi) _ (List.getElem_mem hj) fun e => hij (nodup_get hd hi hj e)
    unfold ofG at this
    exact of_decide_eq_true (p := ((L[j] : Nat) : Int) ∈ row g L[i]) this
/-- A full minor is one above the width at most. -/
theorem hasK_width {g : List (List Int)} (hg : GOk g) {k : Nat} (h : HasK g k) : k ≤ twS g.length (ofG g) 0 + 1 := by
  by_cases c : 2 ≤ k
  · obtain ⟨B, h, _⟩ := h
    refine km_tw (ofG_sym hg) (fun x y e => ?_) c _ 0 B rfl (h.mono fun _ _ _ _ x y _ _ r => viaR_zero (ofG_irr hg) x y (decide_eq_true r))
    unfold ofG at e
    exact adjR_lt hg (adjR_sym hg x y (of_decide_eq_true (p := ((y : Int) ∈ row g x)) e))
  · omega
theorem hasK_ser {g : List (List Int)} (hg : GOk g) (h6 : g.length ≤ 6) : HasK g 4 ↔ ¬ SerS g := by
  rw [ser_km hg h6]
  constructor
  · rintro ⟨B, h, _⟩ hn
    exact hn ⟨B, h⟩
  · intro h
    refine Classical.byContradiction fun hno => h fun ⟨B, hB⟩ => hno (hasK_of hg (by omega) hB)

/-- What FullMinor returns. -/
def FuS (g : List (List Int)) (k : Nat) : Prop := 1 ≤ k ∧ k ≤ 5 ∧ HasK g k ∧ ∀ m, k < m → m ≤ 5 → ¬ HasK g m
/-- A search for the found full graph finds a model. -/
theorem fu_found {g R : List (List Int)} {ok : Bool} (hg : GOk g) (h8 : g.length ≤ 8) {k : Nat} (hk : FuS g k) (h : MiS g (fullG k) R ok) : ok = true ∧ MdOk g (fullG k) R := by
  have hfo := fullG_ok hk.1 (by have := hk.2.1; omega)
  rcases h with ⟨_, w, h2, rfl, rfl⟩ | ⟨h1, _, rfl⟩
  · rw [fullG_length] at h2
    obtain ⟨h3, u, h4, h5, _⟩ := findN_some _ _ _ h2
    refine ⟨rfl, ?_⟩
    rw [fullG_length]
    have := fit_mdOk hg hfo (w := w) (by rw [h4, List.nil_append, h5]) (by rw [fullG_length]; exact h3)
    rwa [fullG_length] at this
  · refine absurd ⟨⟨hg, hfo, h8, by rw [fullG_length]; exact hk.2.1⟩, ?_⟩ h1
    rw [fullG_length]
    exact (found_iff hg fullG_joins).2 hk.2.2.1

end Go.Proofs.YtfokiijcpkhllaaDoor

/- Plain facts: how many stable sets there are, with a vertex or without it. -/
namespace Go.Proofs.YtfokiijcpkhllaaDoor
open Go.RowKit

/-- How many stable sets a list of vertices has: the first is in it or not. -/
def cntL (E : Nat → Nat → Bool) : List Nat → Nat
  | [] => 1
  | v :: l => cntL E l + cntL E (l.filter fun u => !E v u)
termination_by l => l.length
decreasing_by
  · simp
  · simp only [List.length_cons, List.length_unattach]
    exact Nat.lt_succ_of_le (Nat.le_trans (List.length_filter_le _ _) (by simp))
theorem cntL_nil (E : Nat → Nat → Bool) : cntL E [] = 1 := by rw [cntL]
theorem cntL_cons (E : Nat → Nat → Bool) (v : Nat) (l : List Nat) : cntL E (v :: l) = cntL E l + cntL E (l.filter fun u => !E v u) := by rw [cntL]
theorem cntL_le (E : Nat → Nat → Bool) : ∀ (k : Nat) (l : List Nat), l.length ≤ k → cntL E l ≤ 2 ^ k
  | k, [], _ => by rw [cntL_nil]; exact Nat.one_le_two_pow
  | 0, _ :: _, h => by simp at h
  | k + 1, v :: l, h => by
    have hl : l.length ≤ k := by simpa using h
    have h1 := cntL_le E k l hl
    have h2 := cntL_le E k (l.filter fun u => !E v u) (Nat.le_trans (List.length_filter_le _ _) hl)
    rw [cntL_cons, Nat.pow_succ]
    omega
theorem cntL_map (E : Nat → Nat → Bool) (f : Nat → Nat) : ∀ (k : Nat) (l : List Nat), l.length ≤ k → cntL (fun i j => E (f i) (f j)) l = cntL E (l.map f)
  | _, [], _ => by rw [List.map_nil, cntL_nil, cntL_nil]
  | 0, _ :: _, h => by simp at h
  | k + 1, v :: l, h => by
    have hl : l.length ≤ k := by simpa using h
    rw [cntL_cons, List.map_cons, cntL_cons, cntL_map E f k l hl, cntL_map E f k _ (Nat.le_trans (List.length_filter_le _ _) hl), List.filter_map]
    rfl
theorem cntL_congr {E F : Nat → Nat → Bool} : ∀ (k : Nat) (l : List Nat), l.length ≤ k → (∀ u ∈ l, ∀ v ∈ l, E u v = F u v) → cntL E l = cntL F l
  | _, [], _, _ => by rw [cntL_nil, cntL_nil]
  | 0, _ :: _, h, _ => by simp at h
  | k + 1, v :: l, h, hE => by
    have hl : l.length ≤ k := by simpa using h
    have e : (l.filter fun u => !E v u) = l.filter fun u => !F v u := List.filter_congr fun u hu => by rw [hE v (by simp) u (by simp [hu])]
    rw [cntL_cons, cntL_cons, e, cntL_congr k l hl fun u hu w hw => hE u (by simp [hu]) w (by simp [hw]), cntL_congr k _ (Nat.le_trans (List.length_filter_le _ _) hl) fun u hu w hw => hE u (by simp [(List.mem_filter.1 hu).1]) w (by simp [(List.mem_filter.1 hw).1])]
theorem filter_comm' {α : Type} (p q : α → Bool) (l : List α) : (l.filter p).filter q = (l.filter q).filter p := by
  rw [List.filter_filter, List.filter_filter]
  exact List.filter_congr fun x _ => Bool.and_comm _ _
theorem filter_ne_not {v : Nat} {l : List Nat} (h : v ∉ l) : (l.filter fun u => !(u == v)) = l := List.filter_eq_self.2 fun u hu => by
  have : u ≠ v := fun e => h (e ▸ hu)
  simp [this]
/-- With a vertex or without it. -/
theorem cntL_split {E : Nat → Nat → Bool} (hs : ∀ u v, E u v = E v u) : ∀ (k : Nat) (l : List Nat), l.length ≤ k → l.Nodup → ∀ v ∈ l, cntL E l = cntL E (l.filter fun u => !(u == v)) + cntL E ((l.filter fun u => !(u == v)).filter fun u => !E v u)
  | _, [], _, _, v, hv => by cases hv
  | 0, _ :: _, h, _, _, _ => by simp at h
  | k + 1, x :: l, h, hn, v, hv => by
    have hl : l.length ≤ k := by simpa using h
    have hx := (List.nodup_cons.1 hn).1
    have hn' := (List.nodup_cons.1 hn).2
    by_cases e : v = x
    · subst e
      have e1 : ((v :: l).filter fun u => !(u == v)) = l := by
        rw [List.filter_cons]
        simp only [beq_self_eq_true, Bool.not_true, Bool.false_eq_true, if_false]
        exact filter_ne_not hx
      rw [e1, cntL_cons]
    · have hvl : v ∈ l := by
        rcases List.mem_cons.1 hv with h1 | h1
        · exact absurd h1 e
        · exact h1
      have hxv : (!(x == v)) = true := by simp; exact fun h => e h.symm
      have e1 : ((x :: l).filter fun u => !(u == v)) = x :: l.filter fun u => !(u == v) := by
        rw [List.filter_cons, if_pos hxv]
      have ih1 := cntL_split hs k l hl hn' v hvl
      rw [e1, cntL_cons, cntL_cons, ih1, List.filter_cons]
      cases hE : E v x
      · have hE2 : E x v = false := by rw [hs]; exact hE
        have hm : v ∈ l.filter fun u => !E x u := List.mem_filter.2 ⟨hvl, by rw [hE2]; rfl⟩
        have ih2 := cntL_split hs k (l.filter fun u => !E x u) (Nat.le_trans (List.length_filter_le _ _) hl) (List.Pairwise.filter _ hn') v hm
        simp only [Bool.not_false, if_true]
        rw [ih2, cntL_cons]
        have c1 : ((l.filter fun u => !E x u).filter fun u => !(u == v)) = (l.filter fun u => !(u == v)).filter fun u => !E x u := filter_comm' _ _ _
        have c2 : (((l.filter fun u => !(u == v)).filter fun u => !E x u).filter fun u => !E v u) = ((l.filter fun u => !(u == v)).filter fun u => !E v u).filter fun u => !E x u := filter_comm' _ _ _
        rw [c1, c2]
        omega
      · have hE2 : E x v = true := by rw [hs]; exact hE
        have hm : v ∉ l.filter fun u => !E x u := fun hm => by
          have := (List.mem_filter.1 hm).2
          rw [hE2] at this
          cases this
        have c1 : (l.filter fun u => !E x u) = (l.filter fun u => !(u == v)).filter fun u => !E x u := by
          rw [filter_comm']
          exact (filter_ne_not hm).symm
        simp only [Bool.not_true, Bool.false_eq_true, if_false]
        rw [← c1]
        omega

end Go.Proofs.YtfokiijcpkhllaaDoor

/- Plain: the search of a map that fits; an order and its inverse. -/
namespace Go.Proofs.YtfokiijcpkhllaaDoor

/-! ### The search -/
/-- v fits behind what there is. -/
def okV (E F : Nat → Nat → Bool) (pre : List Nat) (v : Nat) : Prop := v ∉ pre ∧ ∀ k (h : k < pre.length), E v pre[k] = F pre.length k
/-- The first completion by r more. -/
noncomputable def fitF (n : Nat) (E F : Nat → Nat → Bool) : Nat → List Nat → Option (List Nat)
  | 0, pre => some pre
  | r + 1, pre => (List.range n).findSome? fun v => if dec (okV E F pre v) = true then fitF n E F r (pre ++ [v]) else none
/-- A map that fits. -/
def FitAll (E F : Nat → Nat → Bool) (l : List Nat) : Prop := ∀ i (h : i < l.length), okV E F (l.take i) l[i]
theorem fitF_some {n : Nat} {E F : Nat → Nat → Bool} : ∀ (r : Nat) (pre l : List Nat), fitF n E F r pre = some l → ∃ u, l = pre ++ u ∧ u.length = r ∧ (∀ x ∈ u, x < n) ∧ ∀ i (h : i < u.length), okV E F (pre ++ u.take i) u[i]
  | 0, pre, l, h => by
    simp only [fitF, Option.some.injEq] at h
    exact ⟨[], by rw [← h, List.append_nil], rfl, by simp, fun i h => by simp at h⟩
  | r + 1, pre, l, h => by
    rw [fitF, List.findSome?_eq_some_iff] at h
    obtain ⟨l1, v, l2, h1, h2, _⟩ := h
    by_cases hv : dec (okV E F pre v) = true
    · rw [if_pos hv] at h2
      obtain ⟨u, rfl, h4, h5, h6⟩ := fitF_some r _ _ h2
      have hvn : v < n := List.mem_range.1 (by rw [h1]; simp)
      refine ⟨v :: u, by simp, by simp [h4], fun x hx => ?_, fun i hi => ?_⟩
      · rcases List.mem_cons.1 hx with rfl | hx
        · exact hvn
        · exact h5 x hx
      · cases i with
        | zero => simpa using dec_iff.1 hv
        | succ i =>
          have := h6 i (by simpa using hi)
          simpa [List.append_assoc] using this
    · rw [if_neg hv] at h2
      cases h2
theorem fitF_none {n : Nat} {E F : Nat → Nat → Bool} : ∀ (r : Nat) (pre : List Nat), fitF n E F r pre = none → ∀ u : List Nat, u.length = r → (∀ x ∈ u, x < n) → ¬ ∀ i (h : i < u.length), okV E F (pre ++ u.take i) u[i]
  | 0, pre, h, u, hu, _ => by simp [fitF] at h
  | r + 1, pre, h, u, hu, hn => by
    intro hk
    cases u with
    | nil => simp at hu
    | cons v u =>
      rw [fitF, List.findSome?_eq_none_iff] at h
      have h1 := h v (List.mem_range.2 (hn v (by simp)))
      have h0 : okV E F pre v := by
        have := hk 0 (by simp)
        simpa only [List.take_zero, List.append_nil, List.getElem_cons_zero] using this
      rw [if_pos (dec_true h0)] at h1
      refine fitF_none r _ h1 u (by simpa using hu) (fun x hx => hn x (by simp [hx])) fun i hi => ?_
      have := hk (i + 1) (by simpa using hi)
      simpa [List.append_assoc] using this
/-- The tries below v. -/
noncomputable def fitTo (n : Nat) (E F : Nat → Nat → Bool) (r : Nat) (pre : List Nat) (v : Nat) : Option (List Nat) := (List.range v).findSome? fun v => if dec (okV E F pre v) = true then fitF n E F r (pre ++ [v]) else none
theorem fitTo_zero (n : Nat) (E F : Nat → Nat → Bool) (r : Nat) (pre : List Nat) : fitTo n E F r pre 0 = none := rfl
theorem fitTo_all (n : Nat) (E F : Nat → Nat → Bool) (r : Nat) (pre : List Nat) : fitTo n E F r pre n = fitF n E F (r + 1) pre := rfl
theorem fitTo_no {n : Nat} {E F : Nat → Nat → Bool} {r : Nat} {pre : List Nat} {v : Nat} (h : fitTo n E F r pre v = none) (hv : ¬ okV E F pre v) : fitTo n E F r pre (v + 1) = none := by
  unfold fitTo at h ⊢
  rw [List.range_succ, List.findSome?_append, h]
  simp [dec_false hv]
theorem fitTo_yes {n : Nat} {E F : Nat → Nat → Bool} {r : Nat} {pre : List Nat} {v : Nat} (h : fitTo n E F r pre v = none) (hv : okV E F pre v) : fitTo n E F r pre (v + 1) = fitF n E F r (pre ++ [v]) := by
  unfold fitTo at h ⊢
  rw [List.range_succ, List.findSome?_append, h]
  simp [dec_true hv]
theorem fitTo_stop {n : Nat} {E F : Nat → Nat → Bool} {r : Nat} {pre l : List Nat} : ∀ {v u : Nat}, fitTo n E F r pre v = some l → v ≤ u → fitTo n E F r pre u = some l := by
  intro v u h hvu
  induction u with
  | zero => obtain rfl : v = 0 := by omega
            exact h
  | succ u ih =>
    by_cases e : v = u + 1
    · rw [← e]; exact h
    · have := ih (by omega)
      unfold fitTo at this ⊢
      rw [List.range_succ, List.findSome?_append, this]
      rfl

/-! ### An order and its inverse -/
theorem ofG_ind {g : List (List Int)} {o : List Nat} {r j : Nat} (hr : r < o.length) (hj : j < o.length) : ofG (indL g (natInts o)) r j = ofG g o[r] o[j] := by
  unfold indL
  rw [ofG_matG (by rw [natInts_length]; exact hr) (by rw [natInts_length]; exact hj), indE_nat hr hj]
theorem ind_back {g : List (List Int)} (hg : GOk g) {o b : List Nat} (ho : o.length = g.length) (hb : b.length = g.length) (hbn : ∀ x ∈ b, x < g.length) (hob : ∀ i (h : i < b.length), o.getD b[i] 0 = i) : indL (indL g (natInts o)) (natInts b) = g := by
  have e1 : indL (indL g (natInts o)) (natInts b) = matG g.length (ofG g) := by
    rw [show indL (indL g (natInts o)) (natInts b) = matG (natInts b).length (indE (indL g (natInts o)) (natInts b)) from rfl, natInts_length, hb]
    refine matG_congr fun r j hr hj => ?_
    have hr' : r < b.length := by omega
    have hj' : j < b.length := by omega
    have h1 := hbn _ (List.getElem_mem hr')
    have h2 := hbn _ (List.getElem_mem hj')
    rw [indE_nat hr' hj', ofG_ind (by omega) (by omega)]
    have h3 := hob r hr'
    have h4 := hob j hj'
    rw [List.getD_eq_getElem?_getD, List.getElem?_eq_getElem (by omega)] at h3 h4
    simp only [Option.getD_some] at h3 h4
    rw [h3, h4]
  rw [e1, matG_ofG hg]
/-- The order itself fits. -/
theorem fit_order {g : List (List Int)} {o : List Nat} (hnd : o.Nodup) : ∀ i (h : i < o.length), okV (ofG g) (ofG (indL g (natInts o))) ([] ++ o.take i) o[i] := by
  intro i h
  rw [List.nil_append]
  refine ⟨fun hm => ?_, fun k hk => ?_⟩
  · obtain ⟨j, hj, e⟩ := List.getElem_of_mem hm
    rw [List.length_take] at hj
    rw [List.getElem_take] at e
    exact (List.pairwise_iff_getElem.1 hnd) j i (by omega) h (by omega) e
  · have hki : k < i := by rw [List.length_take] at hk; omega
    have e : (o.take i).length = i := by rw [List.length_take]; omega
    have e2 : (o.take i)[k] = o[k]'(by omega) := List.getElem_take ..
    calc ofG g o[i] (o.take i)[k] = ofG g o[i] (o[k]'(by omega)) := by rw [e2]
      _ = ofG (indL g (natInts o)) i k := (ofG_ind h (by omega)).symm
      _ = ofG (indL g (natInts o)) (o.take i).length k := by rw [e]

end Go.Proofs.YtfokiijcpkhllaaDoor
