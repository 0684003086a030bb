/- Walks: what the exact laws do with their arguments and results, second part. -/
import Derived.Test.YtmakhapdlkbbnaaDoorMnQ17
import Derived.Test.YtmakhapdlkbbnaaDoorMnQ16
namespace Go.Proofs.YtmakhapdlkbbnaaDoor
open Go.RowKit

/-- A slice of rows, each of its own, all in blocks from base on. -/
def OwnRws (w : World) (base : Nat) (v : Value) (g : List (List Int)) : Prop :=
  ∃ vals, vals.length = g.length ∧ w.ownsRow base 36 1 v g.length vals ∧ ∀ j, j < g.length → w.ownsRow base 2 1 (vals.getD j undef) (row g j).length ((row g j).map (Value.int .i64))
def OwnG (w : World) (base : Nat) (v : Value) (g : List (List Int)) : Prop := ∃ u, v = .agg #[u] ∧ OwnRws w base u g

theorem OwnRws.below {w w' : World} {base : Nat} {v : Value} {g : List (List Int)} (h : OwnRws w base v g) (hb : Below w.heap.size w w') : OwnRws w' base v g := by
  obtain ⟨vals, h1, h2, h3⟩ := h
  exact ⟨vals, h1, ownsRow_below h2 hb, fun j hj => ownsRow_below (h3 j hj) hb⟩
theorem OwnG.below {w w' : World} {base : Nat} {v : Value} {g : List (List Int)} (h : OwnG w base v g) (hb : Below w.heap.size w w') : OwnG w' base v g := by
  obtain ⟨u, h1, h2⟩ := h
  exact ⟨u, h1, h2.below hb⟩
theorem OwnRws.rws {w : World} {base : Nat} {v : Value} {g : List (List Int)} (h : OwnRws w base v g) (h1 : g.length ≤ 1000000000) (h2 : ∀ j, j < g.length → (row g j).length ≤ 1000000000) : Rws w 36 2 v g := by
  obtain ⟨vals, e1, e2, e3⟩ := h
  exact ⟨vals, e1, Sl.of_owns e2 h1, fun j hj => Nums.of_owns (e3 j hj) rfl (h2 j hj)⟩
theorem OwnG.gr {w : World} {base : Nat} {v : Value} {g : List (List Int)} (h : OwnG w base v g) (h1 : g.length ≤ 1000000000) (h2 : ∀ j, j < g.length → (row g j).length ≤ 1000000000) : Gr w v g := by
  obtain ⟨u, e1, e2⟩ := h
  exact ⟨u, e1, e2.rws h1 h2⟩

theorem OwnRws.set {w : World} {base : Nat} {v : Value} {g : List (List Int)} (h : OwnRws w base v g) {a : Addr} (ha : a.block < base) (u : Value) : OwnRws (w.setCell a u) base v g := by
  obtain ⟨vals, h1, h2, h3⟩ := h
  exact ⟨vals, h1, ownsRow_setCell_below h2 ha u, fun j hj => ownsRow_setCell_below (h3 j hj) ha u⟩
theorem OwnRws.lower {w : World} {base base' : Nat} {v : Value} {g : List (List Int)} (h : OwnRws w base v g) (hb : base' ≤ base) : OwnRws w base' v g := by
  obtain ⟨vals, h1, h2, h3⟩ := h
  exact ⟨vals, h1, ownsRow_base h2 hb, fun j hj => ownsRow_base (h3 j hj) hb⟩
theorem OwnG.lower {w : World} {base base' : Nat} {v : Value} {g : List (List Int)} (h : OwnG w base v g) (hb : base' ≤ base) : OwnG w base' v g := by
  obtain ⟨u, h1, h2⟩ := h
  exact ⟨u, h1, h2.lower hb⟩

theorem getD_set_self {α : Type} (l : List α) (k : Nat) (x d : α) (h : k < l.length) : (l.set k x).getD k d = x := by simp [h]
theorem getD_set_other {α : Type} (l : List α) (k j : Nat) (x d : α) (h : k ≠ j) : (l.set k x).getD j d = l.getD j d := by simp [h]

set_option maxRecDepth 100000 in
set_option maxHeartbeats 1000000 in
theorem toInt64SS_any (v : Value) (g : List (List Int)) (h1 : g.length ≤ 1048576) (h2 : ∀ j, j < g.length → (row g j).length ≤ 1048576) (w : World) (hx : ArgR w v g) :
    Calls Tryd.prog 124 #[v] w fun e w' => ∃ u, e = .returned u ∧ (∃ b c, u = .slice (some ⟨b, 0, none⟩) g.length c) ∧
      OwnRws w' w.heap.size u g ∧ Below w.heap.size w w' := by
  obtain ⟨p, c, vals0, rfl, hn, hr⟩ := id hx
  clear hr
  go_enter Tryd.func124, Tryd.ntmps124
  go_wp2_with (at_make; refine wpList_mk ty_rows rfl rfl rfl g.length rfl rfl rfl rfl (by omega) ?_; intro w1 hown1 hg1)
  have hb1 := grown_below hg1
  clear hg1
  go_loopw [4] (fun i wr => ∃ (k : Nat) (vals : List Value), k ≤ g.length ∧ i = .int .i64 k ∧ vals.length = g.length ∧ wr.ownsRow w.heap.size 36 1 (.slice (some ⟨w.heap.size, 0, none⟩) g.length g.length) g.length vals ∧
      (∀ j, j < k → wr.ownsRow w.heap.size 2 1 (vals.getD j undef) (row g j).length ((row g j).map (Value.int .i64))) ∧ Below w.heap.size w wr)
    (fun i _ => g.length - (intOf i).toNat)
  case atStart => exact ⟨0, _, Nat.zero_le _, rfl, by simp, hown1, fun j hj => by omega, hb1⟩
  case round =>
    clear hown1 hb1
    obtain ⟨k, vals, hk, rfl, hvl, hown, hrows, hbel⟩ := hrel
    have Hrows := Lib.hid hrows
    have Hvl := Lib.hid hvl
    clear hrows hvl
    by_cases hlt : k < g.length
    · obtain ⟨b, o, rp, rc, rfl, hcell, harg⟩ := (hx.below hbel).get hlt
      have hlk := h2 k hlt
      go_wp2_with (go_at_call 193; refine (toInt64S_any _ _ hlk _ harg).mono ?_; rintro e w2 ⟨_, rfl, ⟨b2, c2, rfl⟩, hown2, hb2⟩; have hownr := ownsRow_below hown hb2; have hf := hownr.frozenAt k; obtain ⟨old, hold⟩ : ∃ old, vals[k]? = some old := ⟨_, List.getElem?_eq_getElem (by have := Hvl.out; omega)⟩; have hc2 := hownr.cellAt k (by omega); rw [hold] at hc2)
      obtain ⟨ho3, hg3⟩ := hownr.stored k (.slice (some ⟨b2, 0, none⟩) (row g k).length c2)
      go_roundw
      case rel =>
        have hvl := Hvl.out
        refine ⟨k + 1, vals.set k (.slice (some ⟨b2, 0, none⟩) (row g k).length c2), by omega, by go_num, by simpa using hvl, ho3, fun j hj => ?_, below_grown (below_le hbel hb2 hbel.size) hownr hg3 (Nat.le_refl _) (by have := hbel.size; have := hb2.size; omega)⟩
        by_cases e : j = k
        · subst e
          rw [getD_set_self _ _ _ _ (by omega)]
          exact ownsRow_base (ownsRow_other hown2 hownr hg3 (by decide)) hbel.size
        · rw [getD_set_other _ _ _ _ _ (fun q => e q.symm)]
          exact ownsRow_other (ownsRow_below (Hrows.out j (by omega)) hb2) hownr hg3 (by decide)
      case measure => simp [intOf]; omega
    · obtain rfl : k = g.length := by omega
      go_wp2
      go_ret
      exact ⟨_, rfl, ⟨_, _, rfl⟩, ⟨vals, Hvl.out, hown, Hrows.out⟩, hbel⟩

set_option maxRecDepth 100000 in
set_option maxHeartbeats 1000000 in
theorem toGraph_any (v : Value) (g : List (List Int)) (h1 : g.length ≤ 1048576) (h2 : ∀ j, j < g.length → (row g j).length ≤ 1048576) (w : World) (hx : ArgG w v g) :
    Calls Tryd.prog 43 #[v] w fun e w' => ∃ u, e = .returned u ∧ OwnG w' w.heap.size u g ∧ Below w.heap.size w w' := by
  obtain ⟨u, rfl, hr⟩ := hx
  obtain ⟨p, c, vals, rfl, hn, _⟩ := id hr
  have hb0 : Below w.heap.size w (((w.alloc (.cells #[.slice p g.length c] 51)).alloc (.cells #[.slice none 0 0] 29)).alloc (.cells #[.slice none 0 0] 29)) :=
    ((below_alloc w _).alloc (by rw [size_alloc]; omega) _).alloc (by rw [size_alloc, size_alloc]; omega) _
  have hr1 := hr.below hb0
  have k1 := ((Box.new w (.slice p g.length c) 51).alloc (.cells #[.slice none 0 0] 29)).alloc (.cells #[.slice none 0 0] 29)
  have k2 := (Box.new (w.alloc (.cells #[.slice p g.length c] 51)) (.slice none 0 0) 29).alloc (.cells #[.slice none 0 0] 29)
  have k3 := Box.new ((w.alloc (.cells #[.slice p g.length c] 51)).alloc (.cells #[.slice none 0 0] 29)) (.slice none 0 0) 29
  rw [size_alloc] at k2
  rw [size_alloc, size_alloc] at k3
  have K2 := Lib.hid k2
  have K3 := Lib.hid k3
  clear k1 k2 k3
  go_enter Tryd.func43, Tryd.ntmps43
  go_wp2_with (go_at_call 124; refine (toInt64SS_any _ g h1 h2 _ hr1).mono ?_; rintro e w2 ⟨_, rfl, ⟨b2, c2, rfl⟩, hown2, hb2⟩; obtain ⟨k2c, k2f, _⟩ := K2.out.keep hb2; obtain ⟨k3c, k3f, _⟩ := K3.out.keep hb2)
  have hsz := hb2.size
  rw [size_alloc, size_alloc, size_alloc] at hsz
  refine bodyPost_ret (v := .agg #[.slice (some ⟨b2, 0, none⟩) g.length c2]) (by simp [results, Tryd.results43, go_sem, k2c]) rfl ⟨_, rfl, ⟨_, rfl, ?_⟩, ?_⟩
  · rw [size_alloc, size_alloc, size_alloc] at hown2
    exact ((hown2.set (by show w.heap.size + 1 + 1 < _; omega) _).set (by show w.heap.size + 1 < _; omega) _).lower (by omega)
  · refine (Below.setCell ?_ (by show w.heap.size ≤ w.heap.size + 1 + 1; omega) _).setCell (by show w.heap.size ≤ w.heap.size + 1; omega) _
    exact hb0.trans (hb2.mono hb0.size)

set_option maxRecDepth 100000 in
set_option maxHeartbeats 1000000 in
theorem eqInt64S_any (u v : Value) (xs ys : List Int) (w : World) (hx : Nums w 2 .i64 u xs) (hy : Nums w 2 .i64 v ys) :
    Calls Tryd.prog 195 #[u, v] w fun e w' => e = .returned (.bool (dec (xs = ys))) ∧ ∃ q, w' = w.drewN q := by
  obtain ⟨p, c, rfl, hp, _, hn, hat⟩ := hx
  obtain ⟨p', c', rfl, hp', _, hn', hat'⟩ := hy
  by_cases hl : xs.length = ys.length
  case neg =>
    have hl' : ((xs.length : Int) != (ys.length : Int)) = true := by simp; omega
    go_enter Tryd.func195, Tryd.ntmps195
    go_wp2
    go_ret
    exact ⟨ret_bool (false_dec fun h => hl (by rw [h])), 0, rfl⟩
  have Hl := Lib.hid hl
  have hl' : ((xs.length : Int) != (ys.length : Int)) = false := by simp; omega
  clear hl
  go_enter Tryd.func195, Tryd.ntmps195
  go_wp2
  go_loopw [5] (fun i wr => ∃ k : Nat, k ≤ xs.length ∧ i = .int .i64 k ∧ xs.take k = ys.take k ∧ ∃ q, wr = w.drewN q) (fun i _ => xs.length - (intOf i).toNat)
  case atStart => exact ⟨0, Nat.zero_le _, rfl, by simp, 0, rfl⟩
  case round =>
    obtain ⟨k, hk, rfl, heq, q, rfl⟩ := hrel
    have Heq := Lib.hid heq
    clear heq
    by_cases hlt : k < xs.length
    · have hlt' : k < ys.length := by have := Hl.out; omega
      obtain ⟨b, o, rfl, hcell⟩ := hat.num hlt
      obtain ⟨b', o', rfl, hcell'⟩ := hat'.num hlt'
      clear hat hat'
      have e0 : (0 : Int) ≤ (k : Int) := by omega
      have e1 : (k : Int) < (xs.length : Int) := by omega
      have e2 : (k : Int) < (ys.length : Int) := by omega
      by_cases he : xs[k] = ys[k]
      · have he' : (xs[k] != ys[k]) = false := by simpa using he
        have He := Lib.hid he
        clear he
        go_wp2
        go_quiet (fail)
        go_wp2
        go_roundw
        case rel => exact ⟨k + 1, by omega, by go_num, by rw [take_snoc xs k hlt, take_snoc ys k hlt', Heq.out, He.out], _, rfl⟩
        case measure => simp [intOf]; omega
      · have he' : (xs[k] != ys[k]) = true := by simpa using he
        have He := Lib.hid he
        clear he
        go_wp2
        go_quiet (fail)
        go_wp2
        go_ret
        exact ⟨ret_bool (false_dec fun h => He.out (by subst h; rfl)), _, World.drewN_drewN _ _ _⟩
    · obtain rfl : k = xs.length := by omega
      go_wp2
      go_ret
      refine ⟨ret_bool (true_dec ?_), q, rfl⟩
      have h := Heq.out
      rwa [List.take_length, Hl.out, List.take_length] at h

end Go.Proofs.YtmakhapdlkbbnaaDoor

/- Walks: the reference's search of a model: whether a word is that of a model. -/
namespace Go.Proofs.YtmakhapdlkbbnaaDoor
open Go.RowKit

/-- The sets of a word so far, as numbers. -/
structure NumW (wd : List Nat) (m v : Nat) (S : List Nat) : Prop where
  len : S.length = m + 1
  bit : ∀ k j, (S.getD k 0).testBit j = true ↔ k ≤ m ∧ j < v ∧ wd.getD j 0 = k
theorem NumW.start (wd : List Nat) (m : Nat) : NumW wd m 0 (List.replicate (m + 1) 0) where
  len := by simp
  bit := fun k j => by
    rw [List.getD_eq_getElem?_getD, List.getElem?_replicate]
    by_cases h : k < m + 1 <;> simp [h]
theorem NumW.lt {wd : List Nat} {m v : Nat} {S : List Nat} (h : NumW wd m v S) (k : Nat) : S.getD k 0 < 2 ^ v := by
  refine Nat.lt_of_not_le fun hge => ?_
  obtain ⟨j, hj, hb⟩ := Nat.exists_ge_and_testBit_of_ge_two_pow hge
  have := ((h.bit k j).1 hb).2.1
  omega
theorem NumW.step {wd : List Nat} {m v : Nat} {S : List Nat} (h : NumW wd m v S) {x : Nat} (hx : wd.getD v 0 = x) (hm : x ≤ m) : NumW wd m (v + 1) (S.set x (S.getD x 0 + 2 ^ v)) where
  len := by rw [List.length_set, h.len]
  bit := fun k j => by
    by_cases e : x = k
    · subst e
      rw [getD_set_self _ _ _ _ (by have := h.len; omega), add_or (h.lt x), Nat.testBit_or, Nat.testBit_two_pow, Bool.or_eq_true, h.bit, decide_eq_true_eq]
      constructor
      · rintro (h1 | rfl)
        · exact ⟨h1.1, by omega, h1.2.2⟩
        · exact ⟨hm, by omega, hx⟩
      · rintro ⟨h1, h2, h3⟩
        by_cases e : v = j
        · exact .inr e
        · exact .inl ⟨h1, by omega, h3⟩
    · rw [getD_set_other _ _ _ _ _ e, h.bit]
      constructor
      · rintro ⟨h1, h2, h3⟩; exact ⟨h1, by omega, h3⟩
      · rintro ⟨h1, h2, h3⟩
        refine ⟨h1, ?_, h3⟩
        by_cases e2 : j = v
        · subst e2; exact absurd (hx.symm.trans h3) e
        · omega
theorem NumW.set {wd : List Nat} {m : Nat} {S : List Nat} (h : NumW wd m wd.length S) (h16 : wd.length ≤ 16) {k : Nat} (hk : k < m) : bitsOf (S.getD (k + 1) 0) = setW wd k := by
  have hl := h.lt (k + 1)
  have : 2 ^ wd.length ≤ 2 ^ 16 := Nat.pow_le_pow_right (by decide) h16
  refine rising_ext _ _ (bitsOf_rising _) (setW_rising _ _) fun x => ?_
  rw [mem_left (by omega), h.bit, mem_setW]
  constructor
  · rintro ⟨_, h2, h3⟩; exact ⟨h2, h3⟩
  · rintro ⟨h2, h3⟩; exact ⟨by omega, h2, h3⟩

/-- A set of the word and another, joined. -/
def JnW (E : Nat → Nat → Bool) (w : List Nat) (i : Nat) (y : Int) : Prop := ∃ x ∈ setW w i, ∃ z ∈ setW w y.toNat, E x z = true
def FitTo (E : Nat → Nat → Bool) (p : List (List Int)) (w : List Nat) (i : Nat) : Prop := ∀ a, a < i → ConnL E (setW w a) ∧ ∀ y ∈ row p a, JnW E w a y
theorem FitTo.zero (E : Nat → Nat → Bool) (p : List (List Int)) (w : List Nat) : FitTo E p w 0 := fun _ h => absurd h (by omega)
theorem FitTo.snoc {E : Nat → Nat → Bool} {p : List (List Int)} {w : List Nat} {i : Nat} (h : FitTo E p w i) (h1 : ConnL E (setW w i)) (h2 : ∀ y ∈ row p i, JnW E w i y) : FitTo E p w (i + 1) := fun a ha => by
  by_cases e : a = i
  · subst e; exact ⟨h1, h2⟩
  · exact h a (by omega)
theorem fit_iff {E : Nat → Nat → Bool} {p : List (List Int)} (hp : GOk p) {w : List Nat} : FitTo E p w p.length ↔ FitW p.length E (ofG p) w := by
  constructor
  · intro h
    refine ⟨fun k hk => (h k hk).1, fun i hi k hk hF => ?_⟩
    have := (h i hi).2 (k : Int) (by simpa [ofG] using hF)
    simpa [JnW] using this
  · intro h i hi
    refine ⟨h.1 i hi, fun y hy => ?_⟩
    have hy2 := (hp.sets i hi).1.1 y hy
    have := h.2 i hi y.toNat (by omega) (by
      simp only [ofG, decide_eq_true_eq]
      rw [show ((y.toNat : Nat) : Int) = y by omega]; exact hy)
    exact this
theorem jn_and {g : List (List Int)} {s t r n : Nat} (hn : n = g.length) (hr : AroP g s r) {A B : List Nat} (hA : bitsOf s = A) (hB : bitsOf t = B) (hs : s < 2 ^ n) (ht : t < 65536) (h16 : n ≤ 16) : (((r &&& t : Nat) : Int) == 0) = !dec (∃ x ∈ A, ∃ z ∈ B, ofG g x z = true) := by
  subst hn; subst hA; subst hB
  have : 2 ^ g.length ≤ 2 ^ 16 := Nat.pow_le_pow_right (by decide) h16
  have hi : (r &&& t) ≠ 0 ↔ ∃ x ∈ bitsOf s, ∃ z ∈ bitsOf t, ofG g x z = true := by
    constructor
    · intro h
      obtain ⟨j, hj⟩ := Nat.exists_testBit_of_ne_zero h
      rw [Nat.testBit_and, Bool.and_eq_true] at hj
      obtain ⟨v, _, h2, h3⟩ := (hr.2 j).1 hj.1
      exact ⟨v, (mem_left (by omega)).2 h2, j, (mem_left ht).2 hj.2, h3⟩
    · rintro ⟨x, hx, z, hz, hE⟩ e
      have hx2 := (mem_left (by omega)).1 hx
      have h1 : r.testBit z = true := (hr.2 z).2 ⟨x, by have := sub_full hs x hx2; rwa [full_bit, decide_eq_true_eq] at this, hx2, hE⟩
      have h2 : (r &&& t).testBit z = true := by rw [Nat.testBit_and, h1, (mem_left ht).1 hz]; rfl
      rw [e] at h2
      simp at h2
  by_cases h : r &&& t = 0
  · rw [dec_false (fun k => hi.2 k h), h]; rfl
  · rw [dec_true (hi.1 h)]
    exact beq_eq_false_iff_ne.2 (by omega)

set_option maxRecDepth 100000 in
set_option maxHeartbeats 4000000 in
theorem l21Fits_any (v pv xv : Value) (g p : List (List Int)) (hok : GOk g) (hp : GOk p) (wd : List Nat) (hwl : wd.length = g.length) (hwm : ∀ x ∈ wd, x ≤ p.length) (w : World)
    (hn : Nums w 2 .i64 v (natInts (netL g))) (hg : Gr w pv p) (hx : Nums w 2 .i64 xv (natInts wd)) :
    Calls Tryd.prog 191 #[v, pv, xv] w fun e w' => e = .returned (.bool (dec (FitW p.length (ofG g) (ofG p) wd))) ∧ Below w.heap.size w w' := by
  obtain ⟨pu, rfl, hr⟩ := hg
  obtain ⟨pp, pc, rfl, _⟩ := hr.shape
  obtain ⟨xp, xc, rfl, _⟩ := id hx.shape
  have h16 := hok.le
  have hm16 := hp.le
  have hw16 : wd.length ≤ 16 := by omega
  obtain ⟨W0, hW0⟩ : ∃ W0, W0 = w.alloc (.cells #[.slice pp p.length pc] 29) := ⟨_, rfl⟩
  have hbA : Hid (Below w.heap.size w W0) := Lib.hid (by rw [hW0]; exact below_alloc _ _)
  have HN := Lib.hid (hn.below hbA.out)
  have HX := Lib.hid (hx.below hbA.out)
  have HR := Lib.hid (hr.below hbA.out)
  have BX : Hid (Box W0 w.heap.size 29 (.slice pp p.length pc)) := Lib.hid (by rw [hW0]; exact Box.new _ _ _)
  have SZ0 := Lib.hid (show W0.heap.size = w.heap.size + 1 by rw [hW0, size_alloc])
  have HOK := Lib.hid hok
  have HP := Lib.hid hp
  have HWM := Lib.hid hwm
  have HWL := Lib.hid hwl
  have HFI := Lib.hid (fit_iff (E := ofG g) hp (w := wd))
  rw [natInts_length] at HX ⊢
  obtain ⟨wl, hwl2⟩ : ∃ wl, wl = wd.length := ⟨_, rfl⟩
  rw [← hwl2] at HX hw16 ⊢
  have HL := Lib.hid hwl2
  have hwr : IntKind.i64.wrap ((p.length : Int) + 1) = (p.length : Int) + 1 := by rw [IntKind.wrap_i64]; omega
  clear hn hx hr hok hp hwm hwl hwl2
  go_enter Tryd.func191, Tryd.ntmps191
  go_upto_region 1 with fail
  rw [← hW0]
  clear hW0
  have hcx := BX.out.cell
  go_upto_region 2 with (at_make; refine wpList_mk ty_i64 rfl rfl rfl (p.length + 1) rfl rfl (by first | rfl | exact hwr | (rw [hwr]; rfl)) (by first | rfl | exact hwr | (rw [hwr]; rfl)) (by omega) ?_; intro w4 hown4 hg4)
  have hb4 := grown_below hg4
  have HB4 := Lib.hid hb4
  have HO4 := Lib.hid hown4
  obtain ⟨ob, hob⟩ : ∃ ob, ob = W0.heap.size := ⟨_, rfl⟩
  have HOB := Lib.hid hob
  rw [← hob] at HO4 ⊢
  clear hb4 hg4 hown4 hcx hob hwr
  go_wp2_with fail
  go_loopw [8] (fun iv wr => ∃ (k : Nat) (S : List Nat), k ≤ wl ∧ iv = .int .i64 k ∧ Hid (NumW wd p.length k S) ∧ wr.ownsRow ob 2 1 (.slice (some ⟨ob, 0, none⟩) (p.length + 1) (p.length + 1)) (p.length + 1) ((natInts S).map (Value.int .i64)) ∧ Below W0.heap.size W0 wr) (fun iv _ => wl - (intOf iv).toNat)
  case atStart => exact ⟨0, _, Nat.zero_le _, rfl, Lib.hid (NumW.start wd p.length), by have := HO4.out; simpa [natInts] using this, HB4.out⟩
  case round =>
    clear HO4 HB4
    obtain ⟨k, S, hk, rfl, HS, hown, hb⟩ := hrel
    have HB := Lib.hid hb
    have HO := Lib.hid hown
    by_cases hlt : k < wl
    · have hltw : k < wd.length := by rw [← HL.out]; exact hlt
      obtain ⟨qb, qo, hq1, hq⟩ := (HX.out.below hb).get (k := k) (by rw [natInts_length]; exact hltw)
      subst hq1
      obtain ⟨x, hx⟩ : ∃ x, x = wd.getD k 0 := ⟨_, rfl⟩
      have hxk : wd[k]'hltw = x := by rw [hx, List.getD_eq_getElem?_getD, List.getElem?_eq_getElem hltw]; rfl
      have hq2 : (natInts wd)[k]'(by rw [natInts_length]; exact hltw) = (x : Int) := by simp [natInts, hxk]
      rw [hq2] at hq
      have hxm : x ≤ p.length := by rw [← hxk]; exact HWM.out _ (List.getElem_mem hltw)
      have hsl := HS.out.len
      obtain ⟨z, hz⟩ : ∃ z, z = S.getD x 0 := ⟨_, rfl⟩
      have hxc : wr.cell? ⟨ob, x, none⟩ = some (.int .i64 (z : Int)) := by rw [hown.cellAt x (by omega), hz]; simp [natInts, List.getD_eq_getElem?_getD, hsl, show x < p.length + 1 by omega]
      have hfx := hown.frozenAt x
      have hz16 : z < 65536 := by
        have h1 := HS.out.lt x
        have : 2 ^ k ≤ 2 ^ 16 := Nat.pow_le_pow_right (by decide) (by omega)
        omega
      have HST := Lib.hid (HS.out.step hx.symm hxm)
      rw [← hz] at HST
      have hp32 := pow_lt32 k (by omega)
      clear hq2 hxk hsl hz hx hown
      obtain ⟨t, ht⟩ : ∃ t, t = 2 ^ k := ⟨_, rfl⟩
      have HT := Lib.hid ht
      rw [← ht] at HST hp32
      clear ht
      have hwz : IntKind.i64.wrap ((z : Int) + (t : Int)) = (z : Int) + (t : Int) := by rw [IntKind.wrap_i64]; omega
      have hx1 : (x : Int) < (p.length : Int) + 1 := by omega
      go_upto_region 4 with fail
      have HBX : Hid (Below W0.heap.size W0 (wr.setCell ⟨ob, x, none⟩ (.int .i64 ((z : Int) + (t : Int)))).drew) := Lib.hid (below_dN (HB.out.setCell (p := ⟨ob, x, none⟩) (show W0.heap.size ≤ ob by have := HOB.out; omega) _) 1)
      have HOX : Hid ((wr.setCell ⟨ob, x, none⟩ (.int .i64 ((z : Int) + (t : Int)))).drew.ownsRow ob 2 1 (.slice (some ⟨ob, 0, none⟩) (p.length + 1) (p.length + 1)) (p.length + 1) ((natInts (S.set x (z + t))).map (Value.int .i64))) := Lib.hid (by
        have h := (HO.out.stored x (.int .i64 ((z : Int) + (t : Int)))).1
        rw [show (natInts (S.set x (z + t))).map (Value.int .i64) = ((natInts S).map (Value.int .i64)).set x (.int .i64 ((z : Int) + (t : Int))) from by simp [natInts, List.map_set]]
        exact h)
      go_region_law (first | (go_simp; go_at_call 192; refine (l12Bit_any _ k rfl (by omega) _).mono ?_; rintro e w5 ⟨he5, hw5⟩; rw [← HT.out] at he5; subst he5; subst hw5))
      all_goals go_wp2
      all_goals go_roundw
      all_goals first
        | exact ⟨k + 1, _, by omega, by go_num, HST, HOX.out, HBX.out⟩
        | (simp [intOf]; omega)
    · obtain rfl : k = wl := by omega
      have hsl := HS.out.len
      have HS2 : Hid (NumW wd p.length wd.length S) := Lib.hid (by have := HS.out; rwa [HL.out] at this)
      have HSET : Hid (∀ a, a < p.length → bitsOf (S.getD (a + 1) 0) = setW wd a) := Lib.hid (fun a ha => HS2.out.set (by rw [← HL.out]; exact hw16) ha)
      have HLTS : Hid (∀ a, S.getD a 0 < 2 ^ g.length) := Lib.hid (fun a => by have := HS2.out.lt a; rwa [HWL.out] at this)
      have HLTT : Hid (∀ a, S.getD a 0 < 65536) := Lib.hid (fun a => by
        have h1 := HLTS.out a
        have : 2 ^ g.length ≤ 2 ^ 16 := Nat.pow_le_pow_right (by decide) h16
        omega)
      have hcx := hb.at (by have := SZ0.out; omega) BX.out.cell
      have HNo := Lib.hid (HN.out.below hb)
      have HRo := Lib.hid (HR.out.below hb)
      have HCS : Hid (∀ a, a ≤ p.length → wr.cell? ⟨ob, a, none⟩ = some (.int .i64 (S.getD a 0 : Nat))) := Lib.hid (fun a ha => by rw [HO.out.cellAt a (by omega)]; simp [natInts, List.getD_eq_getElem?_getD, HS2.out.len, show a < p.length + 1 by omega])
      have HEND := Lib.hid (hbA.out.trans (hb.mono hbA.out.size))
      obtain ⟨wo, rfl⟩ : ∃ wo, wo = wr := ⟨_, rfl⟩
      clear hown hb HS HB HO hsl
      go_wp2_with fail
      go_loopw [9] (fun iv wr => ∃ i : Nat, i ≤ p.length ∧ iv = .int .i64 i ∧ Hid (FitTo (ofG g) p wd i) ∧ wr = wo) (fun iv _ => p.length - (intOf iv).toNat)
      case atStart => exact ⟨0, Nat.zero_le _, rfl, Lib.hid (FitTo.zero _ _ _), rfl⟩
      case round =>
        obtain ⟨i, hi, rfl, HF, rfl⟩ := hrel
        obtain ⟨wo, rfl⟩ : ∃ wo, wo = wr := ⟨_, rfl⟩
        by_cases hlt : i < p.length
        · have hsc := HCS.out (i + 1) (by omega)
          have hslt := HLTS.out (i + 1)
          have hst16 := HLTT.out (i + 1)
          have HSI := Lib.hid (HSET.out i hlt)
          generalize S.getD (i + 1) 0 = s at hsc hslt hst16 HSI
          have HSLT := Lib.hid hslt
          have hwi : IntKind.i64.wrap ((i : Int) + 1) = (i : Int) + 1 := by rw [IntKind.wrap_i64]; omega
          have hi1 : (i : Int) + 1 < (p.length : Int) + 1 := by omega
          have hi0 : (0 : Int) ≤ (i : Int) + 1 := by omega
          clear hslt
          by_cases hc : ConnL (ofG g) (setW wd i)
          case neg =>
            have HD : Hid (dec (ConnL (ofG g) (bitsOf s)) = false) := Lib.hid (by rw [HSI.out]; exact dec_false hc)
            have HNF := Lib.hid (dec_false (show ¬ FitW p.length (ofG g) (ofG p) wd from fun h => hc ((HFI.out.2 h) i hlt).1))
            clear hc
            go_wp2_with (go_at_call 218; refine (l21Whole_any _ g HOK.out _ s rfl HSLT.out _ HNo.out).mono ?_; rintro e w5 ⟨he5, hw5⟩; rw [HD.out] at he5; subst he5; subst hw5)
            go_ret
            exact ⟨ret_bool HNF.out.symm, HEND.out⟩
          have HD : Hid (dec (ConnL (ofG g) (bitsOf s)) = true) := Lib.hid (by rw [HSI.out]; exact dec_true hc)
          have HC := Lib.hid hc
          clear hc
          go_upto_region 12 with (first
            | (go_at_call 218; refine (l21Whole_any _ g HOK.out _ s rfl HSLT.out _ HNo.out).mono ?_; rintro e w5 ⟨he5, hw5⟩; rw [HD.out] at he5; subst he5; subst hw5)
            | (go_at_call 219; refine (l21Around_any _ g HOK.out _ s rfl hst16 _ HNo.out).mono ?_; rintro e w5 ⟨⟨r, rfl, hr⟩, hw5⟩; subst hw5; have HRA := Lib.hid hr; have hr16 := hr.1; clear hr))
          go_wp2_with fail
          go_loopw [11] (fun kv wr => ∃ k : Nat, k ≤ (row p i).length ∧ kv = .int .i64 k ∧ Hid (∀ y ∈ (row p i).take k, JnW (ofG g) wd i y) ∧ wr = wo) (fun kv _ => (row p i).length - (intOf kv).toNat)
          case atStart => exact ⟨0, Nat.zero_le _, rfl, Lib.hid (fun y hy => by simp at hy), rfl⟩
          case round =>
            obtain ⟨k, hk, rfl, HJ, rfl⟩ := hrel
            obtain ⟨b, o, rp, rc, hgp, hcell, hne⟩ := HRo.out.get hlt
            subst hgp
            replace hcell : World.cell? _ ⟨b, o + i, none⟩ = some (.slice rp (row p i).length rc) := hcell
            replace hne : Nums _ 2 .i64 (.slice rp (row p i).length rc) (row p i) := hne
            have hrl := (HP.out.sets i hlt).1
            by_cases hltk : k < (row p i).length
            · obtain ⟨qb, qo, rfl, hq⟩ := hne.get (k := k) hltk
              have hyr := hrl.1 _ (List.getElem_mem hltk)
              obtain ⟨y, hy⟩ : ∃ y : Nat, (row p i)[k] = (y : Int) := ⟨(row p i)[k].toNat, by omega⟩
              have hyn : y < p.length := by omega
              rw [hy] at hq
              have hyc := HCS.out (y + 1) (by omega)
              have hyt := HLTT.out (y + 1)
              have HSY := Lib.hid (HSET.out y hyn)
              generalize S.getD (y + 1) 0 = t at hyc hyt HSY
              have hj := jn_and rfl HRA.out HSI.out HSY.out HSLT.out hyt h16
              have hand := i64_and_nat r t (by omega) (by omega)
              rw [← hand] at hj
              have hwy : IntKind.i64.wrap ((y : Int) + 1) = (y : Int) + 1 := by rw [IntKind.wrap_i64]; omega
              have hy1 : (y : Int) + 1 < (p.length : Int) + 1 := by omega
              have hy0 : (0 : Int) ≤ (y : Int) + 1 := by omega
              have hrl16 := setIn_length (by omega) hrl
              have HYM : Hid ((y : Int) ∈ row p i) := Lib.hid (hy ▸ List.getElem_mem hltk)
              have HTK : Hid ((row p i).take (k + 1) = (row p i).take k ++ [(y : Int)]) := Lib.hid (by rw [take_snoc' _ k hltk, hy])
              obtain ⟨rl, hrl2⟩ : ∃ rl, rl = (row p i).length := ⟨_, rfl⟩
              rw [← hrl2] at hcell hltk hk hrl16
              have HRL := Lib.hid hrl2
              clear hne hyr hy hand hrl hrl2
              by_cases hJ : JnW (ofG g) wd i (y : Int)
              · have hz : (bits BinOp.and IntKind.i64 (r : Int) (t : Int) == 0) = false := by
                  rw [hj, dec_true (show ∃ x ∈ setW wd i, ∃ z ∈ setW wd y, ofG g x z = true by simpa [JnW] using hJ)]; rfl
                have HJ2 : Hid (∀ x ∈ (row p i).take (k + 1), JnW (ofG g) wd i x) := Lib.hid (fun x hx => by
                  rw [HTK.out] at hx
                  rcases List.mem_append.1 hx with h | h
                  · exact HJ.out x h
                  · rw [List.mem_singleton.1 h]; exact hJ)
                clear hj hJ
                go_wp2_with fail
                go_roundw
                case rel => exact ⟨k + 1, by have := HRL.out; omega, by go_num, HJ2, trivial⟩
                case measure => have := HRL.out; simp [intOf]; omega
              · have hz : (bits BinOp.and IntKind.i64 (r : Int) (t : Int) == 0) = true := by
                  rw [hj, dec_false (show ¬ ∃ x ∈ setW wd i, ∃ z ∈ setW wd y, ofG g x z = true from fun h => hJ (by simpa [JnW] using h))]; rfl
                have HNF := Lib.hid (dec_false (show ¬ FitW p.length (ofG g) (ofG p) wd from fun h => hJ (((HFI.out.2 h) i hlt).2 _ HYM.out)))
                clear hj hJ
                go_wp2_with fail
                go_ret
                exact ⟨ret_bool HNF.out.symm, HEND.out⟩
            · obtain rfl : k = (row p i).length := by omega
              have HFS : Hid (FitTo (ofG g) p wd (i + 1)) := Lib.hid (HF.out.snoc HC.out (by have := HJ.out; rwa [List.take_length] at this))
              clear hne hrl
              go_wp2_with fail
              go_roundw
              case rel => exact ⟨i + 1, by omega, by go_num, HFS, trivial⟩
              case measure => simp [intOf]; omega
        · obtain rfl : i = p.length := by omega
          have HNF := Lib.hid (dec_true (HFI.out.1 HF.out))
          go_wp2_with fail
          go_ret
          exact ⟨ret_bool HNF.out.symm, HEND.out⟩

end Go.Proofs.YtmakhapdlkbbnaaDoor
