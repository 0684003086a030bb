/- Walks: the program's tests of a set, and of a connected one; the masks of several sets. -/
import Derived.Test.YtfokiijcpkhllaaDoorFuQ16
import Derived.Test.YtfokiijcpkhllaaDoorFuQ13
import Derived.Test.YtfokiijcpkhllaaDoorFuQ17
import Derived.Test.YtfokiijcpkhllaaDoorFuQ4
import Derived.Test.YtfokiijcpkhllaaDoorFuQ12
import Derived.Test.YtfokiijcpkhllaaDoorFuQ18
import Derived.Test.YtfokiijcpkhllaaDoorFuQ2
import Derived.Deep.RegionHeld3
import Derived.Deep.DeepCutAuto
namespace Go.Proofs.YtfokiijcpkhllaaDoor
open Go.RowKit

set_option maxRecDepth 100000 in
set_option maxHeartbeats 1000000 in
theorem implSetOk_any (v lv : Value) (g : List (List Int)) (s : List Int) (hgl : g.length ≤ 1000000000) (w : World) (hg : Gr w v g) (hn : Nums w 2 .i64 lv s) :
    Calls Tryd.prog 131 #[v, lv] w fun e w' => e = .returned (.bool (dec (GOk g ∧ SetIn g.length s))) ∧ Below w.heap.size w w' := by
  have hg0 := hg
  obtain ⟨u, rfl, hr⟩ := hg
  obtain ⟨p, c, rfl, _⟩ := hr.shape
  have hbA := Lib.hid (below_alloc w (.cells #[.slice p g.length c] 29))
  have HG := Lib.hid (hg0.below hbA.out)
  have HN := Lib.hid (hn.below hbA.out)
  have BX := Lib.hid (Box.new w (.slice p g.length c) 29)
  clear hr hg0 hn
  by_cases hok : GOk g
  · have hd := Lib.hid (dec_true hok)
    have HD : Hid (dec (SetIn g.length s) = dec (GOk g ∧ SetIn g.length s)) := Lib.hid (dec_congr ⟨fun h => ⟨hok, h⟩, fun h => h.2⟩)
    clear hok
    go_enter Tryd.func131, Tryd.ntmps131
    go_wp2_with (first
      | (go_at_call 38; refine (implGraphOk_any _ g _ HG.out).mono ?_; rintro e w2 ⟨he, hb2⟩; rw [hd.out] at he; subst he; have hbx := (BX.out.keep hb2).cell)
      | (go_at_call 105; refine (increasing_any _ s g.length (by omega) (by omega) _ (HN.out.below hb2)).mono ?_; rintro e w3 ⟨he3, hw3⟩; rw [HD.out] at he3; subst he3; subst hw3))
    go_ret
    exact ⟨rfl, hbA.out.trans (hb2.mono hbA.out.size)⟩
  · have hd := Lib.hid (dec_false hok)
    have HD := Lib.hid (dec_false (show ¬ (GOk g ∧ SetIn g.length s) from fun h => hok h.1))
    clear hok
    go_enter Tryd.func131, Tryd.ntmps131
    go_wp2_with (go_at_call 38; refine (implGraphOk_any _ g _ HG.out).mono ?_; rintro e w2 ⟨he, hb2⟩; rw [hd.out] at he; subst he)
    go_ret
    exact ⟨by rw [HD.out]; rfl, hbA.out.trans (hb2.mono hbA.out.size)⟩

set_option maxRecDepth 100000 in
set_option maxHeartbeats 1000000 in
theorem connected_any (x : Value) (z : Int) (n : Nat) (E : Nat → Nat → Bool) (W : Nat) (hz : z = W) (hW : W < 65536) (hWn : ∀ i, W.testBit i = true → i < n) (w : World) (hx : NE w x n E) (hT : Tab w) :
    Calls Tryd.prog 47 #[x, .int .u32 z] w fun e w' => e = .returned (.bool (dec (ConnL E (bitsOf W)))) ∧ Below w.heap.size w w' := by
  subst hz
  by_cases h0 : W = 0
  · subst h0
    have HD := Lib.hid (dec_false (show ¬ ConnL E (bitsOf 0) by rw [bitsOf_zero]; exact not_connL_nil E))
    go_enter Tryd.func47, Tryd.ntmps47
    go_wp2
    go_ret
    exact ⟨by rw [HD.out]; rfl, Below.refl _ _⟩
  · have h0' : ((W : Int) != 0) = true := by simp; omega
    have hst := bitsOf_step W h0 (by omega)
    obtain ⟨hub, _, _⟩ := testBit_ctz W h0 (by omega)
    obtain ⟨u, hu⟩ : ∃ u, u = Lib.ctz 32 W := ⟨_, rfl⟩
    rw [← hu] at hst hub
    have HU := Lib.hid hu
    have HUB := Lib.hid hub
    have H0 := Lib.hid h0
    have HX := Lib.hid hx
    have HT := Lib.hid hT
    have HWN := Lib.hid hWn
    have HEQ : Hid (∀ m : Nat, m < 65536 → (∀ i, m.testBit i = true ↔ i ∈ partL E (bitsOf W) u) → ((m : Int) == (W : Int)) = dec (ConnL E (bitsOf W))) := Lib.hid (fun m hm hmb => by
      have hi : ConnL E (bitsOf W) ↔ m = W := by
        rw [hst, connL_part, ← hst]
        constructor
        · intro e
          refine Nat.eq_of_testBit_eq fun i => ?_
          rw [Bool.eq_iff_iff, hmb i, e, mem_left hW]
        · rintro rfl
          refine rising_ext _ _ (partL_rising (bitsOf_rising _) u) (bitsOf_rising _) fun i => ?_
          rw [← hmb i, mem_left hW]
      by_cases e : m = W
      · rw [dec_true (hi.2 e), e]; simp
      · rw [dec_false (fun k => e (hi.1 k))]
        simp
        omega)
    clear hu hub h0 hst hx hT hWn
    go_enter Tryd.func47, Tryd.ntmps47
    go_wp2_with (first
      | (go_at_call 113; refine (reach_any _ _ _ n E u W rfl rfl hW HWN.out HUB.out _ HX.out HT.out).mono ?_; rintro e w4 ⟨m, rfl, hm16, hmb, hb4⟩; have hme := HEQ.out m hm16 hmb; clear hmb)
      | (go_at_call 114; refine (least_any _ W rfl H0.out (by omega) _ HT.out).mono ?_; rintro e w3 ⟨he3, rfl⟩; rw [← HU.out] at he3; subst he3))
    go_ret
    exact ⟨ret_bool (by first | exact hme | rfl | (rw [hme])), hb4⟩

/-- A connected set of a right graph. -/
def ConnS (g : List (List Int)) (s : List Int) : Prop := (GOk g ∧ SetIn g.length s) ∧ ConnL (ofG g) (s.map Int.toNat)
theorem setIn_nats {n : Nat} {s : List Int} (h : SetIn n s) : natInts (s.map Int.toNat) = s ∧ (s.map Int.toNat).Pairwise (· < ·) ∧ ∀ x ∈ s.map Int.toNat, x < n := by
  refine ⟨?_, ?_, ?_⟩
  · unfold natInts
    rw [List.map_map]
    conv => rhs; rw [← List.map_id s]
    exact List.map_congr_left fun x hx => Int.toNat_of_nonneg (h.1 x hx).1
  · refine List.pairwise_map.2 (h.2.imp_of_mem fun {a b} ha hb k => ?_)
    have := (h.1 a ha).1
    have := (h.1 b hb).1
    omega
  · intro x hx
    obtain ⟨y, hy, rfl⟩ := List.mem_map.1 hx
    have := h.1 y hy
    omega
theorem bits_maskS {n : Nat} {s : List Int} (hn : n ≤ 16) (h : SetIn n s) : bitsOf (mask s) = s.map Int.toNat := by
  obtain ⟨h1, h2, h3⟩ := setIn_nats h
  conv => lhs; rw [← h1]
  exact bitsOf_maskN h2 fun x hx => by have := h3 x hx; omega


theorem ty_vsets' : SlTy Tryd.prog 60 64 (.int .u32 0) 1 4 := ⟨Tryd.underlying60, by kernel_rfl, rfl, by decide, by decide⟩

end Go.Proofs.YtfokiijcpkhllaaDoor

/- Plain: models of a pattern in a graph; a model of a model. -/
namespace Go.Proofs.YtfokiijcpkhllaaDoor

/-- The first sets are sets of vertices, no two of which meet. -/
def MdTo (g M : List (List Int)) (k : Nat) : Prop := ∀ a, a < k → SetIn g.length (row M a) ∧ ∀ b, b < a → ∀ x ∈ row M a, x ∉ row M b
def MdW (g M : List (List Int)) : Prop := (GOk g ∧ M.length ≤ 16) ∧ MdTo g M M.length
/-- An edge joins two sets. -/
def JoinP (g : List (List Int)) (A B : List Int) : Prop := ∃ x ∈ A, ∃ y ∈ B, y ∈ row g x.toNat
/-- The edges of the pattern up to one. -/
def JnTo (g p M : List (List Int)) (i : Nat) : Prop := ∀ e ∈ (edN p.length (ofG p) p.length).take i, JoinP g (row M e.1) (row M e.2)
def MdOk (g p M : List (List Int)) : Prop := ((MdW g M ∧ GOk p) ∧ M.length = p.length) ∧ (∀ a, a < M.length → ConnS g (row M a)) ∧ ∀ e ∈ edN p.length (ofG p) p.length, JoinP g (row M e.1) (row M e.2)

theorem MdTo.zero (g M : List (List Int)) : MdTo g M 0 := fun _ h => absurd h (Nat.not_lt_zero _)
theorem MdTo.snoc {g M : List (List Int)} {k : Nat} (h : MdTo g M k) (h1 : SetIn g.length (row M k)) (h2 : ∀ b, b < k → ∀ x ∈ row M k, x ∉ row M b) : MdTo g M (k + 1) := fun a ha => by
  by_cases e : a < k
  · exact h a e
  · obtain rfl : a = k := by omega
    exact ⟨h1, h2⟩

/-- The word of a model: of each vertex whether a set has it. -/
structure WrdI (n : Nat) (M : List (List Int)) (i k : Nat) (F : List Int) : Prop where
  len : F.length = n
  sgn : ∀ x, x < n → (0 < F.getD x 0 ↔ (∃ a, a < i ∧ (x : Int) ∈ row M a) ∨ (x : Int) ∈ (row M i).take k)
theorem WrdI.start (n : Nat) (M : List (List Int)) : WrdI n M 0 0 (List.replicate n 0) := by
  refine ⟨by simp, fun x hx => ?_⟩
  have h1 : (List.replicate n (0 : Int)).getD x 0 = 0 := by simp [List.getD_eq_getElem?_getD, hx]
  rw [h1]
  simp
theorem WrdI.put {n : Nat} {M : List (List Int)} {i k x : Nat} {F : List Int} (h : WrdI n M i k F) (hk : k < (row M i).length) (hx : (row M i)[k] = (x : Int)) (hn : x < n) (z : Int) (hz : 0 < z) : WrdI n M i (k + 1) (F.set x z) := by
  refine ⟨by rw [List.length_set]; exact h.len, fun y hy => ?_⟩
  rw [take_snoc' _ k hk, hx, List.mem_append, ← or_assoc, ← h.sgn y hy]
  rw [List.getD_eq_getElem?_getD, List.getElem?_set]
  by_cases e : x = y
  · subst e
    simp [h.len, hn, hz]
  · rw [if_neg e, ← List.getD_eq_getElem?_getD]
    have e' : ¬ ((y : Int) = (x : Int)) := by omega
    simp [e']
theorem WrdI.next {n : Nat} {M : List (List Int)} {i : Nat} {F : List Int} (h : WrdI n M i (row M i).length F) : WrdI n M (i + 1) 0 F := by
  refine ⟨h.len, fun y hy => ?_⟩
  rw [h.sgn y hy, List.take_length]
  simp only [List.take_zero, List.not_mem_nil, or_false]
  constructor
  · rintro (⟨a, ha, h1⟩ | h1)
    · exact ⟨a, by omega, h1⟩
    · exact ⟨i, by omega, h1⟩
  · rintro ⟨a, ha, h1⟩
    by_cases e : a < i
    · exact .inl ⟨a, e, h1⟩
    · obtain rfl : a = i := by omega
      exact .inr h1
/-- A vertex that two sets have. -/
theorem wrd_twice {g M : List (List Int)} {i k x : Nat} {F : List Int} (h : WrdI g.length M i k F) (hs : SetIn g.length (row M i)) (hk : k < (row M i).length) (hx : (row M i)[k] = (x : Int)) (hn : x < g.length) (hF : 0 < F.getD x 0) (hi : i < M.length) : ¬ MdTo g M M.length := by
  intro hm
  have hmem : (x : Int) ∈ row M i := by rw [← hx]; exact List.getElem_mem hk
  rcases (h.sgn x hn).1 hF with ⟨a, ha, h1⟩ | h1
  · exact (hm i hi).2 a ha _ hmem h1
  · obtain ⟨j, hj, e⟩ := List.getElem_of_mem h1
    rw [List.length_take] at hj
    rw [List.getElem_take] at e
    have := (List.pairwise_iff_getElem.1 hs.2) j k (by omega) hk (by omega)
    rw [hx, e] at this
    omega
theorem wrd_new {g M : List (List Int)} {i k x : Nat} {F : List Int} (h : WrdI g.length M i k F) (hn : x < g.length) (hF : ¬ 0 < F.getD x 0) : ∀ b, b < i → (x : Int) ∉ row M b := fun b hb k1 => hF ((h.sgn x hn).2 (.inl ⟨b, hb, k1⟩))

/-- The sets of a model of a model. -/
def CmpS (M W R : List (List Int)) : Prop := R.length = W.length ∧ ∀ i, i < W.length → (row R i).Pairwise (· < ·) ∧ ∀ x, x ∈ row R i ↔ ∃ k ∈ row W i, x ∈ row M k.toNat
theorem cmpS_det {M W R R' : List (List Int)} (h : CmpS M W R) (h' : CmpS M W R') : R = R' := by
  refine graph_ext (by rw [h.1, h'.1]) fun r hr => ?_
  rw [h.1] at hr
  refine rising_ext_int _ _ (h.2 r hr).1 (h'.2 r hr).1 fun x => ?_
  rw [(h.2 r hr).2, (h'.2 r hr).2]
/-- What ComposedModel returns. -/
def CmS (g p M q W R : List (List Int)) (ok : Bool) : Prop := (MdOk g p M ∧ MdOk p q W ∧ CmpS M W R ∧ ok = true) ∨ (¬ (MdOk g p M ∧ MdOk p q W) ∧ R = [] ∧ ok = false)
theorem cmS_det {g p M q W R R' : List (List Int)} {ok ok' : Bool} (h : CmS g p M q W R ok) (h' : CmS g p M q W R' ok') : R = R' ∧ ok = ok' := by
  rcases h with ⟨h1, h2, h3, h4⟩ | ⟨h1, h2, h3⟩ <;> rcases h' with ⟨k1, k2, k3, k4⟩ | ⟨k1, k2, k3⟩
  · exact ⟨cmpS_det h3 k3, by rw [h4, k4]⟩
  · exact absurd ⟨h1, h2⟩ k1
  · exact absurd ⟨k1, k2⟩ h1
  · exact ⟨by rw [h2, k2], by rw [h3, k3]⟩

/-- An edge of the graph between two sets, as the reference looks for it. -/
def BtwE (A B : List Int) (e : Nat × Nat) : Prop := ((e.1 : Int) ∈ A ∧ (e.2 : Int) ∈ B) ∨ ((e.2 : Int) ∈ A ∧ (e.1 : Int) ∈ B)
theorem mem_edN' {n : Nat} {E : Nat → Nat → Bool} {a b : Nat} (h1 : a < b) (h2 : b < n) (h3 : E a b = true) : (a, b) ∈ edN n E n := by
  simp only [edN, edRow, List.mem_flatMap, List.mem_range, List.mem_map, List.mem_filter, Bool.and_eq_true, decide_eq_true_eq]
  exact ⟨a, by omega, b, ⟨h2, h1, h3⟩, rfl⟩
theorem join_btw {g : List (List Int)} (hg : GOk g) {A B : List Int} (hA : SetIn g.length A) : JoinP g A B ↔ ∃ e ∈ edN g.length (ofG g) g.length, BtwE A B e := by
  constructor
  · rintro ⟨x, hx, y, hy, h⟩
    have hx1 := hA.1 x hx
    have hxr : x.toNat < g.length := by omega
    have hs := hg.sets x.toNat hxr
    have hy1 := hs.1.1 y h
    have hyr : y.toNat < g.length := by omega
    have hne : y ≠ x := fun e => hs.2 (by rw [Int.toNat_of_nonneg hx1.1]; exact e ▸ h)
    have hsym := hg.both x.toNat hxr y h
    have ex : ((x.toNat : Nat) : Int) = x := by omega
    have ey : ((y.toNat : Nat) : Int) = y := by omega
    by_cases e : x < y
    · exact ⟨(x.toNat, y.toNat), mem_edN' (by omega) hyr (by simp only [ofG, decide_eq_true_eq]; rw [ey]; exact h), .inl ⟨by show ((x.toNat : Nat) : Int) ∈ A; rw [ex]; exact hx, by show ((y.toNat : Nat) : Int) ∈ B; rw [ey]; exact hy⟩⟩
    · exact ⟨(y.toNat, x.toNat), mem_edN' (by omega) hxr (by simp only [ofG, decide_eq_true_eq]; exact hsym), .inr ⟨by show ((x.toNat : Nat) : Int) ∈ A; rw [ex]; exact hx, by show ((y.toNat : Nat) : Int) ∈ B; rw [ey]; exact hy⟩⟩
  · rintro ⟨e, he, h⟩
    obtain ⟨h1, h2, _, h4⟩ := mem_edN (Nat.le_refl _) he
    simp only [ofG, decide_eq_true_eq] at h4
    rcases h with ⟨k1, k2⟩ | ⟨k1, k2⟩
    · exact ⟨_, k1, _, k2, by simpa using h4⟩
    · refine ⟨_, k1, _, k2, ?_⟩
      have := hg.both e.1 h1 _ h4
      simpa using this

end Go.Proofs.YtfokiijcpkhllaaDoor

/- Plain: the least word of a model of a pattern in a host. -/
namespace Go.Proofs.YtfokiijcpkhllaaDoor

/-- The vertices that a word gives to a set. -/
def setW (w : List Nat) (k : Nat) : List Nat := (List.range w.length).filter fun v => w.getD v 0 == k + 1
theorem mem_setW {w : List Nat} {k v : Nat} : v ∈ setW w k ↔ v < w.length ∧ w.getD v 0 = k + 1 := by
  simp [setW]
theorem setW_snoc (w : List Nat) (c k : Nat) : setW (w ++ [c]) k = if c = k + 1 then setW w k ++ [w.length] else setW w k := by
  unfold setW
  rw [List.length_append, List.length_singleton, List.range_succ, List.filter_append]
  have h1 : (List.range w.length).filter (fun v => (w ++ [c]).getD v 0 == k + 1) = (List.range w.length).filter (fun v => w.getD v 0 == k + 1) := List.filter_congr fun v hv => by
    have := List.mem_range.1 hv
    rw [List.getD_eq_getElem?_getD, List.getD_eq_getElem?_getD, List.getElem?_append_left this]
  have h2 : (w ++ [c]).getD w.length 0 = c := by simp
  rw [h1]
  by_cases e : c = k + 1
  · rw [if_pos e, List.filter_cons, h2, e]; simp
  · rw [if_neg e, List.filter_cons, h2]; simp [e]
theorem setW_rising (w : List Nat) (k : Nat) : (setW w k).Pairwise (· < ·) := List.Pairwise.filter _ List.pairwise_lt_range
theorem setW_disj {w : List Nat} {i k v : Nat} (h1 : v ∈ setW w i) (h2 : v ∈ setW w k) : i = k := by
  have := (mem_setW.1 h1).2
  have := (mem_setW.1 h2).2
  omega
/-- How many of so many sets a word has nothing for. -/
def lackW (m : Nat) (w : List Nat) : Nat := (List.range m).countP fun k => decide (k + 1 ∉ w)
theorem lackW_le (m : Nat) (w : List Nat) : lackW m w ≤ m := by
  have := List.countP_le_length (p := fun k => decide (k + 1 ∉ w)) (l := List.range m)
  rwa [List.length_range] at this
theorem lackW_nil (m : Nat) : lackW m [] = m := by
  unfold lackW
  rw [List.countP_eq_length_filter, List.filter_eq_self.2 (by simp), List.length_range]
theorem lackW_old {m c : Nat} {w : List Nat} (h : c = 0 ∨ c ∈ w) : lackW m (w ++ [c]) = lackW m w := by
  unfold lackW
  refine List.countP_congr fun k _ => ?_
  simp only [List.mem_append, List.mem_singleton, decide_eq_true_eq, not_or]
  constructor
  · exact fun h => h.1
  · refine fun h1 => ⟨h1, fun e => ?_⟩
    rcases h with h | h
    · omega
    · exact h1 (e ▸ h)
theorem lackW_new {m i : Nat} {w : List Nat} (hi : i < m) (h : i + 1 ∉ w) : lackW m (w ++ [i + 1]) + 1 = lackW m w := by
  unfold lackW
  have key : ∀ l : List Nat, l.Nodup → i ∈ l → l.countP (fun k => decide (k + 1 ∉ w ++ [i + 1])) + 1 = l.countP (fun k => decide (k + 1 ∉ w)) := by
    intro l
    induction l with
    | nil => intro _ hm; simp at hm
    | cons a l ih =>
      intro hn hm
      have hn' := List.nodup_cons.1 hn
      rw [List.countP_cons, List.countP_cons]
      by_cases e : a = i
      · subst e
        have : l.countP (fun k => decide (k + 1 ∉ w ++ [a + 1])) = l.countP (fun k => decide (k + 1 ∉ w)) := List.countP_congr fun k hk => by
          simp only [List.mem_append, List.mem_singleton, decide_eq_true_eq, not_or]
          refine ⟨fun h => h.1, fun h1 => ⟨h1, fun e => hn'.1 ?_⟩⟩
          obtain rfl : k = a := by omega
          exact hk
        rw [this]
        simp [h]
      · have := ih hn'.2 (by
          rcases List.mem_cons.1 hm with h1 | h1
          · exact absurd h1.symm e
          · exact h1)
        have h2 : decide (a + 1 ∉ w ++ [i + 1]) = decide (a + 1 ∉ w) := by
          rw [decide_eq_decide]
          simp only [List.mem_append, List.mem_singleton, not_or]
          exact ⟨fun h => h.1, fun h1 => ⟨h1, fun e2 => e (by omega)⟩⟩
        rw [h2]
        omega
  exact key _ List.nodup_range (List.mem_range.2 hi)

/-- The word is that of a model. -/
def FitW (m : Nat) (E F : Nat → Nat → Bool) (w : List Nat) : Prop :=
  (∀ k, k < m → ConnL E (setW w k)) ∧ ∀ i, i < m → ∀ k, k < m → F i k = true → ∃ x ∈ setW w i, ∃ y ∈ setW w k, E x y = true
/-- The search: so many letters are left; the first of the next letters with which it ends well. -/
noncomputable def findN (m : Nat) (Fit : List Nat → Prop) : Nat → List Nat → Option (List Nat)
  | 0, w => if 0 < lackW m w then none else if dec (Fit w) = true then some w else none
  | r + 1, w => if r + 1 < lackW m w then none else (List.range (m + 1)).findSome? fun k => findN m Fit r (w ++ [k])
theorem findN_lack {m : Nat} {Fit : List Nat → Prop} {r : Nat} {w : List Nat} (h : r < lackW m w) : findN m Fit r w = none := by
  cases r <;> simp [findN, h]
theorem findN_leaf {m : Nat} {Fit : List Nat → Prop} {w : List Nat} (h : ¬ 0 < lackW m w) : findN m Fit 0 w = if dec (Fit w) = true then some w else none := by
  simp [findN, h]
theorem findN_node {m : Nat} {Fit : List Nat → Prop} {r : Nat} {w : List Nat} (h : ¬ r + 1 < lackW m w) : findN m Fit (r + 1) w = (List.range (m + 1)).findSome? fun k => findN m Fit r (w ++ [k]) := by
  simp [findN, h]
theorem fsome_skip {α : Type} {f : Nat → Option α} {k : Nat} (h : (List.range k).findSome? f = none) (h2 : f k = none) : (List.range (k + 1)).findSome? f = none := by
  rw [List.range_succ, List.findSome?_append, h]
  simp [h2]
theorem fsome_stop {α : Type} {f : Nat → Option α} {k m : Nat} {x : α} (h : (List.range k).findSome? f = none) (hk : k < m) (h2 : f k = some x) : (List.range m).findSome? f = some x := by
  obtain ⟨d, rfl⟩ : ∃ d, m = (k + 1) + d := ⟨m - (k + 1), by omega⟩
  rw [List.range_add, List.findSome?_append, List.range_succ, List.findSome?_append, h]
  simp [h2]
/-- What is found: the word goes on so, and it fits. -/
theorem findN_some {m : Nat} {Fit : List Nat → Prop} : ∀ (r : Nat) (w x : List Nat), findN m Fit r w = some x → Fit x ∧ ∃ u, x = w ++ u ∧ u.length = r ∧ ∀ c ∈ u, c ≤ m
  | 0, w, x, h => by
    by_cases h0 : 0 < lackW m w
    · rw [findN_lack h0] at h; cases h
    · rw [findN_leaf h0] at h
      by_cases hf : dec (Fit w) = true
      · rw [if_pos hf] at h
        cases h
        exact ⟨dec_iff.1 hf, [], by simp, rfl, by simp⟩
      · rw [if_neg hf] at h; cases h
  | r + 1, w, x, h => by
    by_cases h0 : r + 1 < lackW m w
    · rw [findN_lack h0] at h; cases h
    · rw [findN_node h0] at h
      obtain ⟨k, hk, hx⟩ := List.exists_of_findSome?_eq_some h
      obtain ⟨h1, u, rfl, h2, h3⟩ := findN_some r _ _ hx
      refine ⟨h1, k :: u, by simp, by simp [h2], fun c hc => ?_⟩
      rcases List.mem_cons.1 hc with rfl | hc
      · have := List.mem_range.1 hk; omega
      · exact h3 c hc
/-- What is not found: no way to go on fits. -/
theorem findN_none {m : Nat} {Fit : List Nat → Prop} (hF : ∀ w, Fit w → ∀ k, k < m → k + 1 ∈ w) : ∀ (r : Nat) (w : List Nat), findN m Fit r w = none → ∀ u, u.length = r → (∀ c ∈ u, c ≤ m) → ¬ Fit (w ++ u)
  | 0, w, h, u, hu, _ => by
    obtain rfl := List.eq_nil_of_length_eq_zero hu
    rw [List.append_nil]
    intro hf
    have h0 : ¬ 0 < lackW m w := by
      have : lackW m w = 0 := by
        unfold lackW
        rw [List.countP_eq_zero]
        intro k hk
        simp [hF w hf k (List.mem_range.1 hk)]
      omega
    rw [findN_leaf h0, if_pos (dec_true hf)] at h
    cases h
  | r + 1, w, h, u, hu, hc => by
    intro hf
    have h0 : ¬ r + 1 < lackW m w := by
      have h1 : lackW m w ≤ u.length := by
        unfold lackW
        rw [List.countP_eq_length_filter]
        have := sub_len (((List.range m).filter fun k => decide (k + 1 ∉ w)).map (· + 1)) u (by
          rw [List.Nodup, List.pairwise_map]
          exact (List.Pairwise.filter _ (List.nodup_range (n := m))).imp fun {a b} h e => h (by omega)) fun x hx => by
          obtain ⟨k, hk, rfl⟩ := List.mem_map.1 hx
          rw [List.mem_filter, List.mem_range, decide_eq_true_eq] at hk
          rcases List.mem_append.1 (hF _ hf k hk.1) with h1 | h1
          · exact absurd h1 hk.2
          · exact h1
        rwa [List.length_map] at this
      omega
    rw [findN_node h0] at h
    cases u with
    | nil => simp at hu
    | cons c u =>
      have hk : findN m Fit r (w ++ [c]) = none := List.findSome?_eq_none_iff.1 h c (List.mem_range.2 (by have := hc c (List.mem_cons_self ..); omega))
      have := findN_none hF r (w ++ [c]) hk u (by simpa using hu) fun x hx => hc x (List.mem_cons_of_mem _ hx)
      rw [List.append_assoc] at this
      exact this hf
theorem fitW_has {m : Nat} {E F : Nat → Nat → Bool} {w : List Nat} (h : FitW m E F w) : ∀ k, k < m → k + 1 ∈ w := fun k hk => by
  obtain ⟨v, hv⟩ := List.exists_mem_of_ne_nil _ (h.1 k hk).1
  obtain ⟨h1, h2⟩ := mem_setW.1 hv
  rw [List.getD_eq_getElem?_getD, List.getElem?_eq_getElem h1] at h2
  rw [← h2]
  exact List.getElem_mem h1

/-- All neighbours, as pairs. -/
def prsN (n : Nat) (E : Nat → Nat → Bool) : List (Nat × Nat) := (List.range n).flatMap fun v => ((List.range n).filter (E v)).map fun u => (v, u)
theorem prsN_length (n : Nat) (E : Nat → Nat → Bool) : (prsN n E).length = totN n E := by
  unfold prsN totN
  rw [List.length_flatMap]
  congr 1
  refine List.map_congr_left fun v _ => ?_
  rw [List.length_map, ← List.countP_eq_length_filter]
  rfl
theorem mem_prsN {n : Nat} {E : Nat → Nat → Bool} {a b : Nat} : (a, b) ∈ prsN n E ↔ a < n ∧ b < n ∧ E a b = true := by
  unfold prsN
  simp only [List.mem_flatMap, List.mem_range, List.mem_map, List.mem_filter, Prod.mk.injEq]
  constructor
  · rintro ⟨v, hv, u, hu, rfl, rfl⟩
    exact ⟨hv, hu.1, hu.2⟩
  · rintro ⟨h1, h2, h3⟩
    exact ⟨a, h1, b, ⟨h2, h3⟩, rfl, rfl⟩
theorem nodup_prsN (n : Nat) (E : Nat → Nat → Bool) : (prsN n E).Nodup := by
  unfold prsN
  rw [List.Nodup, List.pairwise_flatMap]
  refine ⟨fun v _ => ?_, ?_⟩
  · rw [List.pairwise_map]
    exact (List.Pairwise.filter _ (List.nodup_range (n := n))).imp fun {a b} h e => h (by simpa using e)
  · refine (List.nodup_range (n := n)).imp fun {a b} h x hx y hy e => ?_
    obtain ⟨u, _, rfl⟩ := List.mem_map.1 hx
    obtain ⟨u2, _, rfl⟩ := List.mem_map.1 hy
    simp only [Prod.mk.injEq] at e
    exact h e.1
/-- A pattern with a model has no more edges. -/
theorem fitW_ends {n m : Nat} {E F : Nat → Nat → Bool} {w : List Nat} (hn : w.length = n) (h : FitW m E F w) : totN m F ≤ totN n E := by
  have hch : ∀ e : Nat × Nat, ∃ d : Nat × Nat, e ∈ prsN m F → d.1 ∈ setW w e.1 ∧ d.2 ∈ setW w e.2 ∧ E d.1 d.2 = true := fun e => by
    by_cases he : e ∈ prsN m F
    · obtain ⟨h1, h2, h3⟩ := mem_prsN.1 (show (e.1, e.2) ∈ prsN m F from he)
      obtain ⟨x, hx, y, hy, hE⟩ := h.2 e.1 h1 e.2 h2 h3
      exact ⟨(x, y), fun _ => ⟨hx, hy, hE⟩⟩
    · exact ⟨(0, 0), fun h => absurd h he⟩
  obtain ⟨f, hf⟩ : ∃ f : Nat × Nat → Nat × Nat, ∀ e, e ∈ prsN m F → (f e).1 ∈ setW w e.1 ∧ (f e).2 ∈ setW w e.2 ∧ E (f e).1 (f e).2 = true := ⟨fun e => Classical.choose (hch e), fun e => Classical.choose_spec (hch e)⟩
  have hnd : ((prsN m F).map f).Nodup := by
    rw [List.Nodup, List.pairwise_map]
    refine (nodup_prsN m F).imp_of_mem fun {a b} ha hb hab e => hab ?_
    have h1 := hf a ha
    have h2 := hf b hb
    rw [e] at h1
    exact Prod.ext (setW_disj h1.1 h2.1) (setW_disj h1.2.1 h2.2.1)
  have := sub_len _ (prsN n E) hnd fun x hx => by
    obtain ⟨e, he, rfl⟩ := List.mem_map.1 hx
    have h1 := hf e he
    have h2 := mem_setW.1 h1.1
    have h3 := mem_setW.1 h1.2.1
    exact mem_prsN.2 ⟨by omega, by omega, h1.2.2⟩
  rw [List.length_map, prsN_length, prsN_length] at this
  exact this

/-- The sets of a word. -/
def setsW (m : Nat) (w : List Nat) : List (List Int) := (List.range m).map fun k => natInts (setW w k)
theorem setsW_length (m : Nat) (w : List Nat) : (setsW m w).length = m := by simp [setsW]
theorem row_setsW {m k : Nat} {w : List Nat} (h : k < m) : row (setsW m w) k = natInts (setW w k) := by simp [row, setsW, h]
/-- What MinorIn returns. -/
def MiS (g p gg : List (List Int)) (ok : Bool) : Prop :=
  ((GOk g ∧ GOk p ∧ g.length ≤ 8 ∧ p.length ≤ 5) ∧ ∃ w, findN p.length (FitW p.length (ofG g) (ofG p)) g.length [] = some w ∧ gg = setsW p.length w ∧ ok = true) ∨
  (¬ ((GOk g ∧ GOk p ∧ g.length ≤ 8 ∧ p.length ≤ 5) ∧ ∃ w, findN p.length (FitW p.length (ofG g) (ofG p)) g.length [] = some w) ∧ gg = [] ∧ ok = false)
theorem miS_det {g p gg hh : List (List Int)} {ok ok' : Bool} (h : MiS g p gg ok) (k : MiS g p hh ok') : gg = hh ∧ ok = ok' := by
  rcases h with ⟨h1, w, h2, h3, h4⟩ | ⟨h1, h2, h3⟩ <;> rcases k with ⟨k1, u, k2, k3, k4⟩ | ⟨k1, k2, k3⟩
  · rw [h2] at k2
    cases k2
    exact ⟨by rw [h3, k3], by rw [h4, k4]⟩
  · exact absurd ⟨h1, w, h2⟩ k1
  · exact absurd ⟨k1, u, k2⟩ h1
  · exact ⟨by rw [h2, k2], by rw [h3, k3]⟩

end Go.Proofs.YtfokiijcpkhllaaDoor

/- Walks: l1Less, l12Bit, l12Set. -/
namespace Go.Proofs.YtfokiijcpkhllaaDoor
open Go.RowKit

theorem natInts_atL {l : List Nat} {k : Nat} (h : k < l.length) {h' : k < (natInts l).length} : (natInts l)[k] = ((l[k] : Nat) : Int) := by simp [natInts]
theorem lexL_at : ∀ (i : Nat) (a b : List Nat) (ha : i < a.length) (hb : i < b.length), a.take i = b.take i → a[i] ≠ b[i] → (lexL a b ↔ a[i] < b[i])
  | _, [], _, ha, _, _, _ => by simp at ha
  | _, _ :: _, [], _, hb, _, _ => by simp at hb
  | 0, x :: a, y :: b, _, _, _, hne => by
    simp only [List.getElem_cons_zero] at hne ⊢
    simp only [lexL]
    exact ⟨fun h => h.elim id fun h => absurd h.1 hne, .inl⟩
  | i + 1, x :: a, y :: b, ha, hb, ht, hne => by
    simp only [List.take_succ_cons, List.cons.injEq] at ht
    obtain ⟨rfl, ht⟩ := ht
    simp only [List.getElem_cons_succ] at hne ⊢
    simp only [lexL]
    rw [← lexL_at i a b (by simpa using ha) (by simpa using hb) ht hne]
    exact ⟨fun h => h.elim (fun h => absurd h (Nat.lt_irrefl _)) fun h => h.2, fun h => .inr ⟨trivial, h⟩⟩


theorem i64_and_nat (a b : Nat) (ha : a < 4294967296) (hb : b < 4294967296) : bits BinOp.and IntKind.i64 (a : Int) (b : Int) = ((a &&& b : Nat) : Int) :=
  (bits_nat .i64 32 (by decide) (fun n h1 h2 => by rw [IntKind.wrap_i64]; omega) a b (by omega) (by omega)).1

theorem wrap_pow (v : Nat) (hv : v < 32) : wrap64 (2 ^ v) = ((2 ^ v : Nat) : Int) := by
  have h1 := pow_lt32 v hv
  have e : (2 ^ v : Int) = ((2 ^ v : Nat) : Int) := by simp
  rw [e]
  generalize (2 ^ v : Nat) = t at *
  unfold wrap64
  omega
set_option maxHeartbeats 400000 in
theorem l12Bit_any (z : Int) (v : Nat) (hz : z = v) (hv : v < 32) (w : World) :
    Calls Tryd.prog 51 #[.int .i64 z] w fun e w' => e = .returned (.int .i64 ((2 ^ v : Nat) : Int)) ∧ w = w' := by
  subst hz
  have HB : Hid (wrap64 (2 ^ v) = ((2 ^ v : Nat) : Int)) := Lib.hid (wrap_pow v hv)
  go_enter Tryd.func51, Tryd.ntmps51
  go_wp2
  go_ret
  refine ⟨?_, rfl⟩
  rw [← HB.out]
  rfl

theorem bit_ne (s k : Nat) (hs : s < 65536) (hk : k < 17) : (bits BinOp.and IntKind.i64 (s : Int) ((2 ^ k : Nat) : Int) != 0) = s.testBit k := by
  have h1 := pow_lt32 k (by omega)
  rw [i64_and_nat _ _ (by omega) h1, Bool.eq_iff_iff]
  constructor
  · intro h
    refine Decidable.byContradiction fun hn => ?_
    have h0 : s &&& 2 ^ k = 0 := Nat.eq_of_testBit_eq fun j => by
      rw [Nat.testBit_and, Nat.testBit_two_pow, Nat.zero_testBit]
      by_cases hj : k = j
      · subst hj
        simpa using hn
      · simp [hj]
    rw [h0] at h
    simp at h
  · intro h
    have h0 : s &&& 2 ^ k ≠ 0 := fun h0 => by
      have := congrArg (fun z => z.testBit k) h0
      simp [h] at this
    simp only [bne_iff_ne, ne_eq]
    omega



def lowB (s k : Nat) : List Nat := (List.range k).filter fun i => s.testBit i
theorem lowB_len (s k : Nat) : (lowB s k).length ≤ k := Nat.le_trans (List.length_filter_le _ _) (by simp)
theorem lowB_yes {s k : Nat} (h : s.testBit k = true) : lowB s (k + 1) = lowB s k ++ [k] := by simp [lowB, List.range_succ, h]
theorem lowB_no {s k : Nat} (h : s.testBit k = false) : lowB s (k + 1) = lowB s k := by simp [lowB, List.range_succ, h]
theorem lowB_end {s k : Nat} (hs : s < 2 ^ k) (hk : k ≤ 32) : lowB s k = bitsOf s :=
  rising_ext _ _ (List.Pairwise.filter _ List.pairwise_lt_range) (bitsOf_rising s) fun x => by
    rw [mem_bitsOf, lowB, List.mem_filter, List.mem_range]
    constructor
    · rintro ⟨a, b⟩
      exact ⟨by omega, b⟩
    · rintro ⟨a, b⟩
      refine ⟨Nat.lt_of_not_le fun hge => ?_, b⟩
      have := Nat.testBit_lt_two_pow (Nat.lt_of_lt_of_le hs (Nat.pow_le_pow_right (by decide) hge) : s < 2 ^ x)
      rw [this] at b
      exact nomatch b

set_option maxRecDepth 100000 in
set_option maxHeartbeats 1000000 in
theorem l12Set_any (z : Int) (s : Nat) (hz : z = s) (hs : s < 65536) (w : World) :
    Calls Tryd.prog 52 #[.int .i64 z] w fun e w' => ∃ ov, e = .returned ov ∧ w'.ownsRow w.heap.size 2 1 ov (bitsOf s).length ((natInts (bitsOf s)).map (Value.int .i64)) ∧ Below w.heap.size w w' := by
  subst hz
  have HO := Lib.hid (ownsRow_empty w 2 1)
  have HB := Lib.hid (below_alloc w (.cells #[] 2))
  have HS := Lib.hid hs
  clear hs
  go_enter Tryd.func52, Tryd.ntmps52
  go_wp2
  go_loopw [3, 4] (fun o i wr => ∃ k : Nat, k ≤ 16 ∧ i = .int .i64 k ∧ wr.ownsRow w.heap.size 2 1 o (lowB s k).length ((natInts (lowB s k)).map (Value.int .i64)) ∧ Below w.heap.size w wr) (fun _ i _ => 16 - (intOf i).toNat)
  case atStart => exact ⟨0, Nat.zero_le _, rfl, HO.out, HB.out⟩
  case round =>
    obtain ⟨k, hk, rfl, hown, hbel⟩ := hrel
    have hsz := hbel.size
    have hll := lowB_len s k
    obtain ⟨t, ht⟩ : ∃ t, t = 2 ^ k := ⟨_, rfl⟩
    have HT := Lib.hid ht
    by_cases hle : t ≤ s
    · have hk16 : k < 16 := by
        refine Nat.lt_of_not_le fun h => ?_
        have h1 : 2 ^ 16 ≤ 2 ^ k := Nat.pow_le_pow_right (by decide) h
        have := HS.out
        omega
      have hbit := bit_ne s k HS.out (by omega)
      rw [← ht] at hbit
      clear ht
      have e1 : (t : Int) ≤ (s : Int) := by omega
      cases hb : s.testBit k
      · rw [hb] at hbit
        have Hb := Lib.hid hb
        clear hb
        go_wp2_with (go_at_call 51; refine (l12Bit_any _ k rfl (by omega) _).mono ?_; rintro e w4 ⟨he, hw4⟩; rw [← HT.out] at he; subst he; subst hw4)
        go_roundw
        case rel => exact ⟨k + 1, by omega, by go_num, by rw [lowB_no Hb.out]; exact hown, hbel⟩
        case measure => simp [intOf]; omega
      · rw [hb] at hbit
        have Hb := Lib.hid hb
        clear hb
        go_wp2_with (first
          | (go_at_call 51; refine (l12Bit_any _ k rfl (by omega) _).mono ?_; rintro e w4 ⟨he, hw4⟩; rw [← HT.out] at he; subst he; subst hw4)
          | (at_builtin; refine wpList_app1 ty_i64 rfl rfl rfl hown rfl rfl (by omega) (by omega) ?_; intro v' w1 hown' hg _))
        go_roundw
        case rel => exact ⟨k + 1, by omega, by go_num, by rw [lowB_yes Hb.out, show natInts (lowB s k ++ [k]) = natInts (lowB s k) ++ [(k : Int)] by simp [natInts], List.map_append, List.length_append]; exact hown', below_grown hbel hown hg (Nat.le_refl _) hsz⟩
        case measure => simp [intOf]; omega
    · have hend := Lib.hid (lowB_end (s := s) (k := k) (by omega) (by omega))
      clear ht
      go_wp2_with (go_at_call 51; refine (l12Bit_any _ k rfl (by omega) _).mono ?_; rintro e w4 ⟨he, hw4⟩; rw [← HT.out] at he; subst he; subst hw4)
      go_ret
      exact ⟨_, rfl, by rw [← hend.out]; exact hown, hbel⟩

end Go.Proofs.YtfokiijcpkhllaaDoor

/- Walks: sets as int64 (the reference's l25Bits, l25Many, l27Low, l27Part). -/
namespace Go.Proofs.YtfokiijcpkhllaaDoor
open Go.RowKit

def i64v (s : Nat) : Value := .int .i64 (s : Int)
theorem i64_or_nat (a b : Nat) (ha : a < 4294967296) (hb : b < 4294967296) : bits BinOp.or IntKind.i64 (a : Int) (b : Int) = ((a ||| b : Nat) : Int) :=
  (bits_nat .i64 32 (by decide) (fun n h1 h2 => by rw [IntKind.wrap_i64]; omega) a b (by omega) (by omega)).2
theorem i64_andNot_nat (a b : Nat) (ha : a < 4294967296) (hb : b < 4294967296) : bits BinOp.andNot IntKind.i64 (a : Int) (b : Int) = ((sub a b : Nat) : Int) := by
  have hx : sub a b < 2 ^ 32 := sub_lt32 _ _ ha
  show IntKind.i64.wrap ((BitVec.ofInt 64 (a : Int) &&& ~~~BitVec.ofInt 64 (b : Int)).toNat : Int) = _
  have e1 : (BitVec.ofInt 64 (a : Int)).toNat = a := by rw [BitVec.ofInt_natCast, BitVec.toNat_ofNat]; omega
  have e2 : (BitVec.ofInt 64 (b : Int)).toNat = b := by rw [BitVec.ofInt_natCast, BitVec.toNat_ofNat]; omega
  have e3 : a &&& (2 ^ 64 - 1 - b) = sub a b := Nat.eq_of_testBit_eq fun j => by
    rw [testBit_sub _ _ ha hb, Nat.testBit_and]
    have h64 : b < 2 ^ 64 := by omega
    rw [show 2 ^ 64 - 1 - b = 2 ^ 64 - (b + 1) by omega, Nat.testBit_two_pow_sub_succ h64]
    by_cases hj : j < 64
    · simp [hj]
    · have : a.testBit j = false := Nat.testBit_lt_two_pow (Nat.lt_of_lt_of_le (show a < 2 ^ 32 by omega) (Nat.pow_le_pow_right (by decide) (by omega)))
      simp [this]
  rw [BitVec.toNat_and, BitVec.toNat_not, e1, e2, e3, IntKind.wrap_i64]
  omega
theorem shrB_bit (s k : Nat) (hs : s < 65536) : bits BinOp.and IntKind.i64 ((s : Int) / 2 ^ k) 1 = ((if s.testBit k then 1 else 0 : Nat) : Int) := by
  have e : ((s : Int) / 2 ^ k) = ((s / 2 ^ k : Nat) : Int) := by simp
  rw [e]
  have h1 : s / 2 ^ k < 4294967296 := Nat.lt_of_le_of_lt (Nat.div_le_self _ _) (by omega)
  have := i64_and_nat (s / 2 ^ k) 1 h1 (by decide)
  rw [show ((1 : Nat) : Int) = 1 from rfl] at this
  rw [this, Nat.and_one_is_mod, Nat.testBit_eq_decide_div_mod_eq]
  by_cases h : s / 2 ^ k % 2 = 1
  · simp [h]
  · have : s / 2 ^ k % 2 = 0 := by omega
    simp [this]
theorem bits_deg {n : Nat} (hn : n ≤ 16) {E : Nat → Nat → Bool} {v s : Nat} (hs : s < 65536) (hb : ∀ j, s.testBit j = (decide (j < n) && E v j)) : (bitsOf s).length = degN n E v := by
  have : bitsOf s = (List.range n).filter (E v) := rising_ext _ _ (bitsOf_rising _) (List.Pairwise.filter _ List.pairwise_lt_range) fun x => by
    rw [mem_left hs, hb, List.mem_filter, List.mem_range]
    simp
  rw [this]
  unfold degN
  rw [List.countP_eq_length_filter]

end Go.Proofs.YtfokiijcpkhllaaDoor

/- Walks: the reference's search of a model: how many ends, the neighbours as numbers, what lies around, what is whole. -/
namespace Go.Proofs.YtfokiijcpkhllaaDoor
open Go.RowKit

theorem row_degM {g : List (List Int)} (hg : GOk g) {v : Nat} (hv : v < g.length) : (row g v).length = degN g.length (ofG g) v := by
  have h := row_matG (E := ofG g) hv
  rw [matG_ofG hg] at h
  rw [h, natInts_length]
  unfold degN
  rw [List.countP_eq_length_filter]
def sumD (n : Nat) (E : Nat → Nat → Bool) (k : Nat) : Nat := ((List.range k).map (degN n E)).sum
theorem sumD_succ (n : Nat) (E : Nat → Nat → Bool) (k : Nat) : sumD n E (k + 1) = sumD n E k + degN n E k := by
  unfold sumD
  rw [List.range_succ, List.map_append, List.sum_append]
  simp
theorem sumD_le {n : Nat} (hn : n ≤ 16) (E : Nat → Nat → Bool) : ∀ k, sumD n E k ≤ 16 * k
  | 0 => by simp [sumD]
  | k + 1 => by
    rw [sumD_succ]
    have := sumD_le hn E k
    have := degN_le n E k
    omega

set_option maxRecDepth 100000 in
set_option maxHeartbeats 2000000 in
theorem l19Ends_any (v : Value) (g : List (List Int)) (hok : GOk g) (w : World) (hg : Gr w v g) :
    Calls Tryd.prog 84 #[v] w fun e w' => e = .returned (.int .i64 (totN g.length (ofG g) : Nat)) ∧ Below w.heap.size w w' := by
  obtain ⟨u, rfl, hr⟩ := hg
  obtain ⟨p, c, rfl, _⟩ := hr.shape
  have hbA := Lib.hid (below_alloc w (.cells #[.slice p g.length c] 29))
  have BX := Lib.hid (Box.new w (.slice p g.length c) 29)
  have HR := Lib.hid (hr.below hbA.out)
  have HOK := Lib.hid hok
  have h16 := hok.le
  clear hr hok
  go_enter Tryd.func84, Tryd.ntmps84
  go_wp2
  go_loopw [3, 4] (fun m i wr => ∃ k : Nat, k ≤ g.length ∧ i = .int .i64 k ∧ m = .int .i64 (sumD g.length (ofG g) k : Nat) ∧ wr = w.alloc (.cells #[.slice p g.length c] 29)) (fun _ i _ => g.length - (intOf i).toNat)
  case atStart => exact ⟨0, Nat.zero_le _, rfl, rfl, rfl⟩
  case round =>
    obtain ⟨k, hk, rfl, rfl, rfl⟩ := hrel
    have hbx := BX.out.cell
    have hsl := sumD_le h16 (ofG g) k
    by_cases hlt : k < g.length
    · obtain ⟨b, o, rp, rc, hgp, hcell, _⟩ := HR.out.get hlt
      subst hgp
      change World.cell? _ _ = some (.slice rp (row g k).length rc) at hcell
      have HSS := Lib.hid (sumD_succ g.length (ofG g) k)
      have hdl := degN_le g.length (ofG g) k
      rw [row_degM HOK.out hlt] at hcell
      generalize degN g.length (ofG g) k = d at hcell HSS hdl
      generalize sumD g.length (ofG g) k = sk at HSS hsl
      go_wp2
      go_roundw
      case rel => exact ⟨k + 1, by omega, by go_num, by rw [HSS.out]; exact val_int (by omega), trivial⟩
      case measure => simp [intOf]; omega
    · obtain rfl : k = g.length := by omega
      go_wp2
      go_ret
      exact ⟨rfl, hbA.out⟩

theorem bit_maskM {s : List Int} (h : ∀ x ∈ s, 0 ≤ x) (i : Nat) : (mask s).testBit i = true ↔ (i : Int) ∈ s := by
  rw [testBit_mask, List.any_eq_true]
  constructor
  · rintro ⟨x, hx, e⟩
    have h1 := h x hx
    have h2 : x.toNat = i := by simpa using e
    have : (i : Int) = x := by omega
    rw [this]; exact hx
  · intro k
    exact ⟨_, k, by simp⟩
theorem add_or {a k : Nat} (h : a < 2 ^ k) : a + 2 ^ k = a ||| 2 ^ k := by
  have := Nat.two_pow_add_eq_or_of_lt h 1
  rw [Nat.mul_one] at this
  rw [Nat.add_comm, this, Nat.or_comm]
theorem mask_take_lt {xs : List Int} (hr : xs.Pairwise (· < ·)) (h0 : ∀ x ∈ xs, 0 ≤ x) {k : Nat} (hk : k < xs.length) : mask (xs.take k) < 2 ^ xs[k].toNat := by
  refine Nat.lt_of_not_le fun hge => ?_
  obtain ⟨v, hv, hb⟩ := Nat.exists_ge_and_testBit_of_ge_two_pow hge
  have hm : ((v : Nat) : Int) ∈ xs.take k := (bit_maskM (fun x hx => h0 x (List.mem_of_mem_take hx)) v).1 hb
  obtain ⟨i, hi, e⟩ := List.getElem_of_mem hm
  rw [List.length_take] at hi
  rw [List.getElem_take] at e
  have := List.pairwise_iff_getElem.1 hr i k (by omega) hk (by omega)
  have := h0 _ (List.getElem_mem hk)
  omega

set_option maxRecDepth 100000 in
set_option maxHeartbeats 4000000 in
theorem l21Near_any (v : Value) (g : List (List Int)) (hok : GOk g) (w : World) (hg : Gr w v g) :
    Calls Tryd.prog 86 #[v] w fun e w' => ∃ u, e = .returned u ∧ w'.ownsRow w.heap.size 2 1 u g.length ((natInts (netL g)).map (Value.int .i64)) ∧ Below w.heap.size w w' := by
  obtain ⟨u, rfl, hr⟩ := hg
  obtain ⟨p, c, rfl, _⟩ := hr.shape
  obtain ⟨w1, hw1⟩ : ∃ w1, w1 = w.alloc (.cells #[.slice p g.length c] 29) := ⟨_, rfl⟩
  have hbA : Hid (Below w.heap.size w w1) := Lib.hid (by rw [hw1]; exact below_alloc _ _)
  have BX : Hid (Box w1 w.heap.size 29 (.slice p g.length c)) := Lib.hid (by rw [hw1]; exact Box.new _ _ _)
  have HR := Lib.hid (hr.below hbA.out)
  have HOK := Lib.hid hok
  have h16 := hok.le
  have S1 : Hid (w1.heap.size = w.heap.size + 1) := Lib.hid (by rw [hw1, size_alloc])
  have HNL : Hid (∀ k, k < g.length → (netL g).take (k + 1) = (netL g).take k ++ [mask (row g k)]) := Lib.hid (fun k hk => by
    have hl : k < (netL g).length := by simp [netL]; omega
    rw [take_snoc (netL g) k hl]
    congr 2
    simp [netL, row, hk])
  have HLl : Hid ((netL g).length = g.length) := Lib.hid (by simp [netL])
  clear hr hok
  go_enter Tryd.func86, Tryd.ntmps86
  go_upto_region 1 with fail
  rw [← hw1]
  clear hw1
  go_wp2
  go_loopw [3, 4, 5, 6] (fun o i _ _ wr => ∃ k : Nat, k ≤ g.length ∧ i = .int .i64 k ∧ Hid (wr.ownsRow w1.heap.size 2 1 o k ((natInts ((netL g).take k)).map (Value.int .i64))) ∧ Hid (Below w1.heap.size w1 wr)) (fun _ i _ _ _ => g.length - (intOf i).toNat)
  case atStart => exact ⟨0, Nat.zero_le _, rfl, Lib.hid (ownsRow_empty _ _ _), Lib.hid (below_alloc _ _)⟩
  case round =>
    obtain ⟨k, hk, rfl, HO, HB⟩ := hrel
    have cbx := (BX.out.keep HB.out).cell
    by_cases hlt : k < g.length
    · obtain ⟨b, o, rp, rc, hgp, hcell, hnums⟩ := (HR.out.below HB.out).get hlt
      subst hgp
      change World.cell? _ _ = some (.slice rp (row g k).length rc) at hcell
      change Nums wr _ _ (.slice rp (row g k).length rc) (row g k) at hnums
      have hset := (HOK.out.sets k hlt).1
      have hx16 := Lib.hid (fun x (hx : x ∈ row g k) => (show 0 ≤ x ∧ x < 16 from by have := hset.1 x hx; omega))
      have hris := Lib.hid hset.2
      have HTK := Lib.hid (HNL.out k hlt)
      have hml : mask (row g k) < 65536 := mask_lt16 _ fun x hx => (hx16.out x hx).2
      obtain ⟨xs, hxs⟩ : ∃ xs, xs = row g k := ⟨_, rfl⟩
      rw [← hxs] at hcell hnums hx16 hris HTK hml
      obtain ⟨_, _, _, _, _, hxl, _⟩ := id hnums.shape
      have HN := Lib.hid hnums
      clear hset hxs hnums
      go_wp2
      go_loopw [5, 6] (fun m i wx => ∃ t : Nat, t ≤ xs.length ∧ i = .int .i64 t ∧ m = .int .i64 (mask (xs.take t) : Nat) ∧ wx = wr) (fun _ i _ => xs.length - (intOf i).toNat)
      case atStart => exact ⟨0, Nat.zero_le _, rfl, rfl, rfl⟩
      case round =>
        obtain ⟨t, ht, rfl, rfl, hw⟩ := hrel
        subst hw
        by_cases htl : t < xs.length
        · obtain ⟨xb, xo, hrp, hcx⟩ := HN.out.get htl
          subst hrp
          have hx := hx16.out _ (List.getElem_mem htl)
          have hlow := mask_take_lt hris.out (fun x hx => (hx16.out x hx).1) htl
          have hsn : mask (xs.take (t + 1)) = mask (xs.take t) ||| 2 ^ xs[t].toNat := by rw [take_snoc' _ t htl, mask_snoc]
          rw [← add_or hlow] at hsn
          have HSN := Lib.hid hsn
          obtain ⟨x, hxn⟩ : ∃ x : Nat, xs[t] = (x : Int) := ⟨xs[t].toNat, by omega⟩
          rw [hxn, Int.toNat_natCast] at HSN hlow
          rw [hxn] at hcx hx
          have hp32 := pow_lt16 x (by omega)
          have hx32 : x < 32 := by omega
          obtain ⟨q, hq⟩ : ∃ q, q = 2 ^ x := ⟨_, rfl⟩
          have HQ := Lib.hid hq
          rw [← hq] at HSN hp32 hlow
          generalize mask (xs.take t) = M at HSN hlow
          clear hxn hsn hq hx
          go_wp2_with (go_at_call 51; refine (l12Bit_any _ x rfl hx32 _).mono ?_; rintro e w5 ⟨he5, hw5⟩; rw [← HQ.out] at he5; subst he5; subst hw5)
          go_roundw
          case rel => exact ⟨t + 1, by omega, by go_num, by rw [HSN.out]; exact val_int (by omega), trivial⟩
          case measure => simp [intOf]; omega
        · obtain rfl : t = xs.length := by omega
          have htx : xs.take xs.length = xs := List.take_length
          rw [htx]
          have hown := HO.out
          have hsz := HB.out.size
          generalize mask xs = M at HTK hml
          clear htx
          go_wp2_with (at_builtin; refine wpList_app1 ty_i64 rfl rfl rfl hown rfl rfl (by omega) hsz ?_; intro v' w5 hown' hg5 _)
          go_roundw
          case rel => exact ⟨k + 1, by omega, by go_num, Lib.hid (by rw [HTK.out]; simpa [natInts] using hown'), Lib.hid (below_grown HB.out hown hg5 (Nat.le_refl _) hsz)⟩
          case measure => simp [intOf]; omega
    · obtain rfl : k = g.length := by omega
      have htl : (netL g).take g.length = netL g := by rw [← HLl.out, List.take_length]
      have HO2 := HO.out
      rw [htl] at HO2
      have HO3 := Lib.hid HO2
      clear htl HO2
      go_wp2
      go_ret
      exact ⟨_, rfl, ownsRow_base HO3.out (by have := S1.out; omega), hbA.out.trans (HB.out.mono hbA.out.size)⟩

end Go.Proofs.YtfokiijcpkhllaaDoor
