/- Plain: the least set that is not pruned away. -/
import Derived.Test.YtfokiijcpkhllaaDoorDsQ9
import Derived.Test.YtfokiijcpkhllaaDoorDsQ6
import Derived.Test.YtfokiijcpkhllaaDoorDsQ19
import Derived.Test.YtfokiijcpkhllaaDoorDsQ8
import Derived.Test.YtfokiijcpkhllaaDoorDsQ21
namespace Go.Proofs.YtfokiijcpkhllaaDoor

/-- A set that is not pruned away whole. -/
def StuckN (g : List (List Int)) (s : Nat) : Prop := ∃ ps L, Prunes g (natInts (bitsOf s)) ps L ∧ L ≠ []
theorem stuck_iff {g : List (List Int)} {s : Nat} {ps : List Pr} {L : List Int} (h : Prunes g (natInts (bitsOf s)) ps L) : StuckN g s ↔ L ≠ [] :=
  ⟨fun ⟨qs, M, h1, h2⟩ => by rw [(prunes_det h h1).2]; exact h2, fun h1 => ⟨ps, L, h, h1⟩⟩
theorem stuck_zero (g : List (List Int)) : ¬ StuckN g 0 := by
  have h : Prunes g (natInts (bitsOf 0)) [] [] := by
    rw [bitsOf_zero]
    exact .done [] fun j hj => by simp at hj
  rw [stuck_iff h]
  simp
def ObB (g : List (List Int)) : Prop := (GOk g ∧ g.length ≤ 8) ∧ ∃ s, s < 2 ^ g.length ∧ StuckN g s
/-- What ObstacleOf returns. -/
def ObS (g : List (List Int)) (ys : List Int) : Prop := (ObB g ∧ ∃ s, LeastP (StuckN g) g.length s ∧ ys = natInts (bitsOf s)) ∨ (¬ ObB g ∧ ys = [])
theorem obS_det {g : List (List Int)} {ys zs : List Int} (h : ObS g ys) (k : ObS g zs) : ys = zs := by
  rcases h with ⟨hb, s, h, rfl⟩ | ⟨hb, rfl⟩ <;> rcases k with ⟨kb, t, k, rfl⟩ | ⟨kb, rfl⟩
  · rw [leastP_det hb.1.1.le h k]
  · exact absurd hb kb
  · exact absurd kb hb
  · rfl
theorem obS_none {g : List (List Int)} (hn : ∀ t, t < 2 ^ g.length → ¬ StuckN g t) : ¬ ObB g ∧ ObS g [] := by
  have h : ¬ ObB g := fun ⟨_, t, h1, h2⟩ => hn t h1 h2
  exact ⟨h, .inr ⟨h, rfl⟩⟩
theorem obS_out {g : List (List Int)} (hn : ¬ (GOk g ∧ g.length ≤ 8)) : ¬ ObB g ∧ ObS g [] := by
  have h : ¬ ObB g := fun ⟨h1, _⟩ => hn h1
  exact ⟨h, .inr ⟨h, rfl⟩⟩
theorem obS_some {g : List (List Int)} {s : Nat} (h1 : GOk g) (h2 : g.length ≤ 8) (h : LeastP (StuckN g) g.length s) : ObB g ∧ ObS g (natInts (bitsOf s)) ∧ (natInts (bitsOf s)).length ≤ 16 := by
  have hb : ObB g := ⟨⟨h1, h2⟩, s, h.1, h.2.1⟩
  refine ⟨hb, .inl ⟨hb, s, h, rfl⟩, ?_⟩
  obtain ⟨hc, _⟩ := cand_bits h1.le h.1
  rw [natInts_length]
  by_cases he : bitsOf s = []
  · rw [he]; simp
  · have := rising_room hc.ris hc.inn he
    omega

end Go.Proofs.YtfokiijcpkhllaaDoor

/- Plain: what is not pruned away has a part that does not keep the distances, six vertices at most; obstacles. -/
namespace Go.Proofs.YtfokiijcpkhllaaDoor

theorem bitVd_lt : ∀ m, m < 7 → ∀ v, v < m → ∀ u, u < v → bitVd u v < m * (m - 1) / 2 := by decide
theorem chk_any {m : Nat} (h1 : 1 ≤ m) (h6 : m ≤ 6) {c : Nat} (hc : c < 2 ^ (m * (m - 1) / 2)) : chkD (degD.getD m []) (twD.getD m []) (c4D.getD m []) (c5D.getD m []) c = true := by
  have key : ∀ k, chkM k = true → c < 2 ^ (k * (k - 1) / 2) → chkD (degD.getD k []) (twD.getD k []) (c4D.getD k []) (c5D.getD k []) c = true := fun k h hc => by
    have := allVd_yes _ 0 h c hc
    rwa [Nat.zero_mul, Nat.zero_add] at this
  match m, h1, h6, hc with
  | 1, _, _, hc => exact key 1 chkM_1 hc
  | 2, _, _, hc => exact key 2 chkM_2 hc
  | 3, _, _, hc => exact key 3 chkM_3 hc
  | 4, _, _, hc => exact key 4 chkM_4 hc
  | 5, _, _, hc => exact key 5 chkM_5 hc
  | 6, _, _, hc => exact chk6_all c hc
  | k + 7, _, h, _ => omega
theorem mem_prsC {m i j : Nat} : (i, j) ∈ prsC m ↔ i < j ∧ j < m := by
  unfold prsC
  simp only [List.mem_flatMap, List.mem_range, List.mem_map, Prod.mk.injEq]
  constructor
  · rintro ⟨a, h1, b, h2, rfl, rfl⟩; exact ⟨h2, h1⟩
  · rintro ⟨h1, h2⟩; exact ⟨j, h2, i, h1, rfl, rfl⟩
/-- What a graph of six vertices at most has. -/
theorem stuck_cert {m : Nat} (h1 : 1 ≤ m) (h6 : m ≤ 6) {e : Nat → Nat → Bool} (hs : ∀ i j, e i j = e j i) :
    (∃ i, i < m ∧ ∃ j, ∀ k, k < m → k ≠ i → e i k = true → k = j) ∨ (∃ i j, i < m ∧ j < m ∧ i ≠ j ∧ ∀ k, k < m → k ≠ i → k ≠ j → e i k = e j k) ∨
    (∃ a b c d x, a < m ∧ b < m ∧ c < m ∧ d < m ∧ x < m ∧ [a, b, c, d, x].Nodup ∧ e a b = true ∧ e b c = true ∧ e c d = true ∧ e x a = true ∧ e x d = true ∧ e a c = false ∧ e b d = false ∧ e a d = false) ∨
    (∃ a b c d f x, a < m ∧ b < m ∧ c < m ∧ d < m ∧ f < m ∧ x < m ∧ [a, b, c, d, f, x].Nodup ∧ e a b = true ∧ e b c = true ∧ e c d = true ∧ e d f = true ∧ e x a = true ∧ e x f = true ∧ e a c = false ∧ e a d = false ∧ e a f = false ∧ e b d = false ∧ e b f = false ∧ e c f = false) := by
  obtain ⟨F, hF⟩ : ∃ F : Nat → Bool, ∀ k, F k = e (prsVd.getD k (0, 0)).1 (prsVd.getD k (0, 0)).2 := ⟨fun k => e (prsVd.getD k (0, 0)).1 (prsVd.getD k (0, 0)).2, fun _ => rfl⟩
  obtain ⟨c, hc⟩ : ∃ c, c = packVd F (m * (m - 1) / 2) := ⟨_, rfl⟩
  have hclt : c < 2 ^ (m * (m - 1) / 2) := by rw [hc]; exact packVd_lt F _
  have bit1 : ∀ u v, u < v → v < m → c.testBit (bitVd u v) = e u v := fun u v h1 h2 => by
    obtain ⟨_, h4⟩ := prsVd_at v (by omega) u h1
    rw [hc, packVd_bit, hF, h4, decide_eq_true (bitVd_lt m (by omega) v h2 u h1), Bool.true_and]
  have bit : ∀ u v, u < m → v < m → u ≠ v → c.testBit (bitVd u v) = e u v := fun u v hu hv huv => by
    rcases Nat.lt_or_gt_of_ne huv with h | h
    · exact bit1 u v h hv
    · rw [bitVd_comm, bit1 v u h hu, hs]
  have hchk := chk_any h1 h6 hclt
  clear hclt bit1
  unfold chkD at hchk
  rw [Bool.or_eq_true, Bool.or_eq_true, Bool.or_eq_true, degD_eq m (by omega), twD_eq m (by omega)] at hchk
  rcases hchk with h | h | h | h
  · left
    obtain ⟨d, hd, h⟩ := List.any_eq_true.1 h
    obtain ⟨i, hi, rfl⟩ := List.mem_map.1 hd
    have hi := List.mem_range.1 hi
    have hb : ∀ k, k < m → k ≠ i → e i k = true → (c &&& maskD (((List.range m).filter (· != i)).map (bitVd i))).testBit (bitVd i k) = true := fun k hk hki he => by
      rw [Nat.testBit_and, bit i k hi hk (Ne.symm hki), he, maskD_bit, Bool.true_and, decide_eq_true_eq]
      exact List.mem_map_of_mem (List.mem_filter.2 ⟨List.mem_range.2 hk, by simpa using hki⟩)
    generalize c &&& maskD (((List.range m).filter (· != i)).map (bitVd i)) = x at h hb
    unfold oneD at h
    rw [Bool.or_eq_true, beq_iff_eq, beq_iff_eq] at h
    refine ⟨i, hi, ?_⟩
    by_cases ex : ∃ j, j < m ∧ j ≠ i ∧ e i j = true
    · obtain ⟨j, hj, hji, hej⟩ := ex
      refine ⟨j, fun k hk hki hek => ?_⟩
      have b1 := hb j hj hji hej
      have b2 := hb k hk hki hek
      rcases h with h | h
      · rw [h, Nat.zero_testBit] at b1; cases b1
      · rw [h] at b1 b2
        have e1 : x.log2 = bitVd i j := Classical.byContradiction fun hn => by rw [Nat.testBit_two_pow_of_ne hn] at b1; cases b1
        have e2 : x.log2 = bitVd i k := Classical.byContradiction fun hn => by rw [Nat.testBit_two_pow_of_ne hn] at b2; cases b2
        exact bitVd_inj i (by omega) k (by omega) j (by omega) ⟨hki, hji, e2.symm.trans e1⟩
    · exact ⟨0, fun k hk hki hek => absurd ⟨k, hk, hki, hek⟩ ex⟩
  · right; left
    obtain ⟨l, hl, h⟩ := List.any_eq_true.1 h
    obtain ⟨⟨i, j⟩, hp, rfl⟩ := List.mem_map.1 hl
    obtain ⟨hij, hjm⟩ := mem_prsC.1 hp
    refine ⟨i, j, by omega, hjm, by omega, fun k hk hki hkj => ?_⟩
    have := List.all_eq_true.1 h (bitVd i k, bitVd j k) (List.mem_map_of_mem (f := fun k => (bitVd i k, bitVd j k)) (List.mem_filter.2 ⟨List.mem_range.2 hk, by simp [hki, hkj]⟩))
    have h2 : c.testBit (bitVd i k) = c.testBit (bitVd j k) := by simpa using this
    rwa [bit i k (by omega) hk (Ne.symm hki), bit j k hjm hk (Ne.symm hkj)] at h2
  · right; right; left
    have e4 : c4D.getD m [] = (t4D.getD m []).map fun t => pairC (on4 t) (of4 t) := by
      rw [c4D_eq]
      simp only [List.getD_eq_getElem?_getD, List.getElem?_map]
      cases t4D[m]? <;> rfl
    rw [e4] at h
    obtain ⟨p, hp, h⟩ := List.any_eq_true.1 h
    obtain ⟨t, ht, rfl⟩ := List.mem_map.1 hp
    have hg := List.all_eq_true.1 (t4D_ok m (by omega)) t ht
    unfold goodT at hg
    simp only [Bool.and_eq_true, beq_iff_eq, decide_eq_true_eq] at hg
    obtain ⟨⟨⟨hlen, hlt⟩, hnd⟩, hoff⟩ := hg
    obtain ⟨a, b, cc, d, x, rfl⟩ : ∃ a b c d x, t = [a, b, c, d, x] := by
      rcases t with _ | ⟨a, _ | ⟨b, _ | ⟨c, _ | ⟨d, _ | ⟨x, _ | ⟨y, t⟩⟩⟩⟩⟩⟩ <;> simp at hlen
      exact ⟨a, b, c, d, x, rfl⟩
    have hlt : a < m ∧ b < m ∧ cc < m ∧ d < m ∧ x < m := by simpa using hlt
    have heq : c &&& maskD (on4 [a, b, cc, d, x] ++ of4 [a, b, cc, d, x]) = maskD (on4 [a, b, cc, d, x]) := by simpa [pairC] using h
    have hon : ∀ q ∈ on4 [a, b, cc, d, x], c.testBit q = true := fun q hq => by
      have := congrArg (Nat.testBit · q) heq
      simp only [Nat.testBit_and, maskD_bit] at this
      rw [decide_eq_true (List.mem_append_left _ hq), decide_eq_true hq, Bool.and_true] at this
      exact this
    have hof : ∀ q ∈ of4 [a, b, cc, d, x], c.testBit q = false := fun q hq => by
      have h3 : q ∉ on4 [a, b, cc, d, x] := by simpa using List.all_eq_true.1 hoff q hq
      have := congrArg (Nat.testBit · q) heq
      simp only [Nat.testBit_and, maskD_bit] at this
      rw [decide_eq_true (List.mem_append_right _ hq), decide_eq_false h3, Bool.and_true] at this
      exact this
    have hne : a ≠ b ∧ a ≠ cc ∧ a ≠ d ∧ a ≠ x ∧ b ≠ cc ∧ b ≠ d ∧ cc ≠ d ∧ d ≠ x := by
      simp only [List.nodup_cons, List.mem_cons, not_or, List.not_mem_nil] at hnd
      omega
    refine ⟨a, b, cc, d, x, hlt.1, hlt.2.1, hlt.2.2.1, hlt.2.2.2.1, hlt.2.2.2.2, hnd, ?_, ?_, ?_, ?_, ?_, ?_, ?_, ?_⟩
    · rw [← bit a b (by omega) (by omega) (by omega)]; exact hon _ (by simp [on4])
    · rw [← bit b cc (by omega) (by omega) (by omega)]; exact hon _ (by simp [on4])
    · rw [← bit cc d (by omega) (by omega) (by omega)]; exact hon _ (by simp [on4])
    · rw [← bit x a (by omega) (by omega) (by omega)]; exact hon _ (by simp [on4])
    · rw [← bit x d (by omega) (by omega) (by omega)]; exact hon _ (by simp [on4])
    · rw [← bit a cc (by omega) (by omega) (by omega)]; exact hof _ (by simp [of4])
    · rw [← bit b d (by omega) (by omega) (by omega)]; exact hof _ (by simp [of4])
    · rw [← bit a d (by omega) (by omega) (by omega)]; exact hof _ (by simp [of4])
  · right; right; right
    have e4 : c5D.getD m [] = (t5D.getD m []).map fun t => pairC (on5 t) (of5 t) := by
      rw [c5D_eq]
      simp only [List.getD_eq_getElem?_getD, List.getElem?_map]
      cases t5D[m]? <;> rfl
    rw [e4] at h
    obtain ⟨p, hp, h⟩ := List.any_eq_true.1 h
    obtain ⟨t, ht, rfl⟩ := List.mem_map.1 hp
    have hg := List.all_eq_true.1 (t5D_ok m (by omega)) t ht
    unfold goodT at hg
    simp only [Bool.and_eq_true, beq_iff_eq, decide_eq_true_eq] at hg
    obtain ⟨⟨⟨hlen, hlt⟩, hnd⟩, hoff⟩ := hg
    obtain ⟨a, b, cc, d, f, x, rfl⟩ : ∃ a b c d f x, t = [a, b, c, d, f, x] := by
      rcases t with _ | ⟨a, _ | ⟨b, _ | ⟨c, _ | ⟨d, _ | ⟨f, _ | ⟨x, _ | ⟨y, t⟩⟩⟩⟩⟩⟩⟩ <;> simp at hlen
      exact ⟨a, b, c, d, f, x, rfl⟩
    have hlt : a < m ∧ b < m ∧ cc < m ∧ d < m ∧ f < m ∧ x < m := by simpa using hlt
    have heq : c &&& maskD (on5 [a, b, cc, d, f, x] ++ of5 [a, b, cc, d, f, x]) = maskD (on5 [a, b, cc, d, f, x]) := by simpa [pairC] using h
    have hon : ∀ q ∈ on5 [a, b, cc, d, f, x], c.testBit q = true := fun q hq => by
      have := congrArg (Nat.testBit · q) heq
      simp only [Nat.testBit_and, maskD_bit] at this
      rw [decide_eq_true (List.mem_append_left _ hq), decide_eq_true hq, Bool.and_true] at this
      exact this
    have hof : ∀ q ∈ of5 [a, b, cc, d, f, x], c.testBit q = false := fun q hq => by
      have h3 : q ∉ on5 [a, b, cc, d, f, x] := by simpa using List.all_eq_true.1 hoff q hq
      have := congrArg (Nat.testBit · q) heq
      simp only [Nat.testBit_and, maskD_bit] at this
      rw [decide_eq_true (List.mem_append_right _ hq), decide_eq_false h3, Bool.and_true] at this
      exact this
    have hne : a ≠ b ∧ a ≠ cc ∧ a ≠ d ∧ a ≠ f ∧ a ≠ x ∧ b ≠ cc ∧ b ≠ d ∧ b ≠ f ∧ cc ≠ d ∧ cc ≠ f ∧ d ≠ f ∧ f ≠ x := by
      simp only [List.nodup_cons, List.mem_cons, not_or, List.not_mem_nil] at hnd
      omega
    refine ⟨a, b, cc, d, f, x, hlt.1, hlt.2.1, hlt.2.2.1, hlt.2.2.2.1, hlt.2.2.2.2.1, hlt.2.2.2.2.2, hnd, ?_, ?_, ?_, ?_, ?_, ?_, ?_, ?_, ?_, ?_, ?_, ?_⟩
    · rw [← bit a b (by omega) (by omega) (by omega)]; exact hon _ (by simp [on5])
    · rw [← bit b cc (by omega) (by omega) (by omega)]; exact hon _ (by simp [on5])
    · rw [← bit cc d (by omega) (by omega) (by omega)]; exact hon _ (by simp [on5])
    · rw [← bit d f (by omega) (by omega) (by omega)]; exact hon _ (by simp [on5])
    · rw [← bit x a (by omega) (by omega) (by omega)]; exact hon _ (by simp [on5])
    · rw [← bit x f (by omega) (by omega) (by omega)]; exact hon _ (by simp [on5])
    · rw [← bit a cc (by omega) (by omega) (by omega)]; exact hof _ (by simp [of5])
    · rw [← bit a d (by omega) (by omega) (by omega)]; exact hof _ (by simp [of5])
    · rw [← bit a f (by omega) (by omega) (by omega)]; exact hof _ (by simp [of5])
    · rw [← bit b d (by omega) (by omega) (by omega)]; exact hof _ (by simp [of5])
    · rw [← bit b f (by omega) (by omega) (by omega)]; exact hof _ (by simp [of5])
    · rw [← bit cc f (by omega) (by omega) (by omega)]; exact hof _ (by simp [of5])
/-- A part of which none goes does not keep the distances, and has five vertices at least. -/
theorem stuck_not {g : List (List Int)} (hg : GOk g) {L : List Int} (hL : ∀ x ∈ L, 0 ≤ x ∧ x < g.length) (hd : L.Nodup) (h0 : L ≠ []) (h6 : L.length ≤ 6) (hno : ∀ j (hj : j < L.length), PrS g L L[j] none) : ¬ Kept (ofG g) (fun x => (x : Int) ∈ L) ∧ 5 ≤ L.length := by
  obtain ⟨P, hP⟩ : ∃ P : Nat → Nat, ∀ i, P i = (L.getD i 0).toNat := ⟨fun i => (L.getD i 0).toNat, fun _ => rfl⟩
  have hPat : ∀ i (hi : i < L.length), (P i : Int) = L[i] := fun i hi => by
    rw [hP, List.getD_eq_getElem?_getD, List.getElem?_eq_getElem hi]
    exact Int.toNat_of_nonneg (hL _ (List.getElem_mem hi)).1
  have hPm : ∀ i, i < L.length → (P i : Int) ∈ L := fun i hi => by rw [hPat i hi]; exact List.getElem_mem hi
  have hPi : ∀ i j, i < L.length → j < L.length → P i = P j → i = j := fun i j hi hj e => by
    have : L[i] = L[j] := by rw [← hPat i hi, ← hPat j hj, e]
    refine Classical.byContradiction fun hne => ?_
    rcases Nat.lt_or_gt_of_ne hne with hlt | hlt
    · exact List.pairwise_iff_getElem.1 hd i j hi hj hlt this
    · exact List.pairwise_iff_getElem.1 hd j i hj hi hlt this.symm
  have hPs : ∀ x ∈ L, ∃ i, i < L.length ∧ x = (P i : Int) := fun x hx => by
    obtain ⟨i, hi, rfl⟩ := List.getElem_of_mem hx
    exact ⟨i, hi, (hPat i hi).symm⟩
  have hrow : ∀ i k : Nat, ofG g (P i) (P k) = true ↔ (P k : Int) ∈ row g (P i) := fun i k => by unfold ofG; exact decide_eq_true_iff
  have hirr := ofG_irr hg
  have hsymE := ofG_sym hg
  have hpos : 1 ≤ L.length := List.length_pos_iff.2 h0
  have hgo : ∀ i, i < L.length → ∀ k b, ¬ GoP g L (P i) b k := fun i hi => by
    have := hno i hi
    rw [← hPat i hi] at this
    exact this
  rcases stuck_cert hpos h6 (e := fun i j => ofG g (P i) (P j)) (fun i j => by rw [Bool.eq_iff_iff]; exact ⟨hsymE _ _, hsymE _ _⟩) with ⟨i, hi, j, h⟩ | ⟨i, j, hi, hj, hij, h⟩ | ⟨a, b, c, d, x, ha, hb, hc, hd4, hx, hnd, e1, e2, e3, e4, e5, e6, e7, e8⟩ | ⟨a, b, c, d, f, x, ha, hb, hc, hd4, hf, hx, hnd, e1, e2, e3, e4, e5, e6, e7, e8, e9, e10, e11, e12⟩
  · exfalso
    by_cases ex : ∃ k, k < L.length ∧ k ≠ i ∧ ofG g (P i) (P k) = true
    · obtain ⟨k, hk, hki, hek⟩ := ex
      refine hgo i hi 2 (P k) (.inr ⟨hPm k hk, fun e => hki (hPi k i hk hi (by omega)), .inl ⟨rfl, fun x hx => ?_⟩⟩)
      obtain ⟨t, ht, rfl⟩ := hPs x hx
      rw [Int.toNat_natCast, ← hrow]
      constructor
      · intro e
        have hti : t ≠ i := fun e2 => by rw [e2, hirr] at e; cases e
        rw [h t ht hti e, h k hk hki hek]
      · intro e
        rw [show P t = P k by omega]; exact hek
    · refine hgo i hi 1 (-1) (.inl ⟨rfl, rfl, fun x hx => ?_⟩)
      obtain ⟨t, ht, rfl⟩ := hPs x hx
      rw [Int.toNat_natCast, ← hrow]
      intro e
      exact ex ⟨t, ht, (fun e2 => by rw [e2, hirr] at e; cases e), e⟩
  · exfalso
    have hcond : ∀ x ∈ L, x ≠ (P i : Int) → x ≠ (P j : Int) → (x ∈ row g (P i) ↔ x ∈ row g (P j)) := fun x hx h1 h2 => by
      obtain ⟨t, ht, rfl⟩ := hPs x hx
      rw [← hrow, ← hrow]
      have := h t ht (fun e => h1 (by rw [e])) (fun e => h2 (by rw [e]))
      rw [Bool.eq_iff_iff] at this
      exact this
    have hji : (P j : Int) ≠ (P i : Int) := fun e => hij (hPi i j hi hj (by omega))
    by_cases hadj : (P j : Int) ∈ row g (P i)
    · exact hgo i hi 4 (P j) (.inr ⟨hPm j hj, hji, .inr (.inr ⟨rfl, by rw [Int.toNat_natCast]; exact hadj, by rw [Int.toNat_natCast, Int.toNat_natCast]; exact hcond⟩)⟩)
    · exact hgo i hi 3 (P j) (.inr ⟨hPm j hj, hji, .inr (.inl ⟨rfl, by rw [Int.toNat_natCast]; exact hadj, by rw [Int.toNat_natCast, Int.toNat_natCast]; exact hcond⟩)⟩)
  · have hlen := sub_len [a, b, c, d, x] (List.range L.length) hnd fun y hy => by
      rw [List.mem_range]
      simp only [List.mem_cons, List.not_mem_nil, or_false] at hy
      omega
    rw [List.length_range] at hlen
    simp only [List.nodup_cons, List.mem_cons, not_or, List.not_mem_nil] at hnd
    have pn : ∀ i j, i < L.length → j < L.length → i ≠ j → P i ≠ P j := fun i j hi hj hij e => hij (hPi i j hi hj e)
    exact ⟨not_kept4 hsymE hirr ⟨hPm a ha, hPm b hb, hPm c hc, hPm d hd4, hPm x hx⟩ ⟨pn _ _ hd4 ha (by omega), pn _ _ hd4 hb (by omega), pn _ _ hd4 hc (by omega)⟩ e1 e2 e3 e6 e7 e8 e4 e5, hlen⟩
  · have hlen := sub_len [a, b, c, d, f, x] (List.range L.length) hnd fun y hy => by
      rw [List.mem_range]
      simp only [List.mem_cons, List.not_mem_nil, or_false] at hy
      omega
    rw [List.length_range] at hlen
    simp only [List.nodup_cons, List.mem_cons, not_or, List.not_mem_nil] at hnd
    have pn : ∀ i j, i < L.length → j < L.length → i ≠ j → P i ≠ P j := fun i j hi hj hij e => hij (hPi i j hi hj e)
    exact ⟨not_kept5 hsymE hirr ⟨hPm a ha, hPm b hb, hPm c hc, hPm d hd4, hPm f hf, hPm x hx⟩ ⟨pn _ _ hf ha (by omega), pn _ _ hf hb (by omega), pn _ _ hf hc (by omega)⟩ e1 e2 e3 e4 e7 e8 e9 e10 e11 e5 e6, Nat.le_trans (by simp) hlen⟩
theorem le_sum_abs : ∀ (L : List Int) (b : Int), b ∈ L → b.natAbs ≤ (L.map Int.natAbs).sum
  | [], _, h => by cases h
  | x :: L, b, h => by
    rw [List.map_cons, List.sum_cons]
    rcases List.mem_cons.1 h with rfl | h
    · exact Nat.le_add_right _ _
    · exact Nat.le_trans (le_sum_abs L b h) (Nat.le_add_left _ _)
theorem prS_some {g : List (List Int)} {L : List Int} {v : Int} (h : ¬ PrS g L v none) : ∃ p, PrS g L v (some p) := by
  -- the least kind, then the least other vertex
  have h1 : ∃ k b, GoP g L v b k := Classical.byContradiction fun hn => h fun k b hg => hn ⟨k, b, hg⟩
  have hk : ∃ k : Nat, (∃ b, GoP g L v b (k : Int)) ∧ ∀ i, i < k → ¬ ∃ b, GoP g L v b (i : Int) := by
    obtain ⟨k, b, hg⟩ := h1
    have := goP_kind hg
    obtain ⟨k, rfl⟩ := Int.eq_ofNat_of_zero_le (show 0 ≤ k by omega)
    have hex : ∃ b, GoP g L v b (k : Int) := ⟨b, hg⟩
    clear hg this
    induction k using Nat.strongRecOn with
    | _ k ih =>
      by_cases c2 : ∃ i, i < k ∧ ∃ b, GoP g L v b (i : Int)
      · obtain ⟨i, h1, h2⟩ := c2
        obtain ⟨b', h3⟩ := h2
        exact ih i h1 ⟨b', h3⟩
      · exact ⟨k, hex, fun i h1 h2 => c2 ⟨i, h1, h2⟩⟩
  obtain ⟨k, ⟨b0, hb0⟩, hmin⟩ := hk
  have hlow : ∀ b, GoP g L v b (k : Int) → -1 - (L.map Int.natAbs).sum ≤ b := fun b hb => by
    rcases hb with ⟨_, rfl, _⟩ | ⟨hb, _⟩
    · omega
    · have : b.natAbs ≤ (L.map Int.natAbs).sum := by
        exact le_sum_abs L b hb
      omega
  have hb : ∃ d : Nat, GoP g L v (-1 - ((L.map Int.natAbs).sum : Nat) + d) (k : Int) ∧ ∀ i, i < d → ¬ GoP g L v (-1 - ((L.map Int.natAbs).sum : Nat) + i) (k : Int) := by
    have h5 := hlow b0 hb0
    obtain ⟨d, hd⟩ := Int.eq_ofNat_of_zero_le (show 0 ≤ b0 - (-1 - ((L.map Int.natAbs).sum : Nat)) by omega)
    have hex : GoP g L v (-1 - ((L.map Int.natAbs).sum : Nat) + (d : Int)) (k : Int) := by
      rw [← hd, show -1 - ((L.map Int.natAbs).sum : Int) + (b0 - (-1 - ((L.map Int.natAbs).sum : Int))) = b0 by omega]
      exact hb0
    clear hd h5
    induction d using Nat.strongRecOn with
    | _ d ih =>
      by_cases c2 : ∃ i, i < d ∧ GoP g L v (-1 - ((L.map Int.natAbs).sum : Nat) + (i : Nat)) (k : Int)
      · obtain ⟨i, h1, h2⟩ := c2
        exact ih i h1 h2
      · exact ⟨d, hex, fun i h1 h2 => c2 ⟨i, h1, h2⟩⟩
  obtain ⟨d, hd, hdm⟩ := hb
  refine ⟨⟨v, -1 - ((L.map Int.natAbs).sum : Nat) + d, k⟩, rfl, hd, fun k' b' hlt hgo => ?_⟩
  have hk' := goP_kind hgo
  obtain ⟨k', rfl⟩ := Int.eq_ofNat_of_zero_le (show 0 ≤ k' by omega)
  rcases hlt with hlt | ⟨he, hlt⟩
  · have hlt : (k' : Int) < (k : Int) := hlt
    exact hmin k' (by omega) ⟨b', hgo⟩
  · have he : (k' : Int) = (k : Int) := he
    have hlt : b' < -1 - ((L.map Int.natAbs).sum : Int) + (d : Int) := hlt
    rw [he] at hgo
    have h5 := hlow b' hgo
    obtain ⟨i, hi⟩ := Int.eq_ofNat_of_zero_le (show 0 ≤ b' - (-1 - ((L.map Int.natAbs).sum : Nat)) by omega)
    refine hdm i (by omega) ?_
    rw [show -1 - ((L.map Int.natAbs).sum : Int) + (i : Int) = b' by omega]
    exact hgo
theorem prunes_left {g : List (List Int)} {L L' : List Int} {ps : List Pr} (h : Prunes g L ps L') : L.Pairwise (· < ·) → (∀ x ∈ L', x ∈ L) ∧ L'.Pairwise (· < ·) ∧ L'.length ≤ L.length ∧ ∀ j (hj : j < L'.length), PrS g L' L'[j] none := by
  induction h with
  | done L h => intro hr; exact ⟨fun _ h => h, hr, Nat.le_refl _, h⟩
  | step L j hj p ps L' _ _ _ ih =>
    intro hr
    obtain ⟨h1, h2, h3, h4⟩ := ih (lessL_rising hr _)
    exact ⟨fun x hx => (mem_lessL.1 (h1 x hx)).1, h2, Nat.le_trans h3 (lessL_length _ _), h4⟩
/-- Pruned away is who keeps its distances. -/
theorem prunes_total (g : List (List Int)) : ∀ (n : Nat) (L : List Int), L.length ≤ n → ∃ ps L', Prunes g L ps L'
  | n, L, hn => by
    by_cases c : ∃ j, ∃ hj : j < L.length, ¬ PrS g L L[j] none
    · -- the first one that goes
      obtain ⟨j, ⟨hj, hp⟩, hmin⟩ : ∃ j, (∃ hj : j < L.length, ¬ PrS g L L[j] none) ∧ ∀ i, i < j → ¬ ∃ hi : i < L.length, ¬ PrS g L L[i] none := by
        obtain ⟨j, hj⟩ := c
        induction j using Nat.strongRecOn with
        | _ j ih =>
          by_cases c2 : ∃ i, i < j ∧ ∃ hi : i < L.length, ¬ PrS g L L[i] none
          · obtain ⟨i, h1, h2⟩ := c2
            exact ih i h1 h2
          · exact ⟨j, hj, fun i h1 h2 => c2 ⟨i, h1, h2⟩⟩
      obtain ⟨p, hp⟩ := prS_some hp
      match n, hn with
      | 0, hn => omega
      | n + 1, hn =>
        obtain ⟨ps, L', h⟩ := prunes_total g n (lessL L L[j]) (by have := lessL_length_lt (List.getElem_mem hj); omega)
        exact ⟨p :: ps, L', .step L j hj p ps L' (fun i hi hij => Classical.byContradiction fun h => hmin i hij ⟨hi, h⟩) hp h⟩
    · exact ⟨[], L, .done L fun j hj => Classical.byContradiction fun h => c ⟨j, hj, h⟩⟩
theorem prunes_kept {g : List (List Int)} (hg : GOk g) {L L' : List Int} {ps : List Pr} (hL : SetIn g.length L) (h6 : L.length ≤ 6) (h : Prunes g L ps L') : L' = [] ↔ Kept (ofG g) fun x => (x : Int) ∈ L := by
  refine ⟨fun h0 => kept_of_prunes hg h h0 hL.1, fun hk => Classical.byContradiction fun h0 => ?_⟩
  obtain ⟨h1, h2, h3, h4⟩ := prunes_left h hL.2
  exact (stuck_not hg (fun x hx => hL.1 x (h1 x hx)) (h2.imp fun h => by omega) h0 (by omega) h4).1 (hk.sub fun x hx => h1 _ hx)

end Go.Proofs.YtfokiijcpkhllaaDoor
