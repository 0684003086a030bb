/- Plain: who is folded away has width two at most, and the other way round. -/
import Derived.Test.YtfokiijcpkhllaaDoorFdQ19
import Derived.Test.YtfokiijcpkhllaaDoorFdQ20
import Derived.Test.YtfokiijcpkhllaaDoorFdQ5
import Derived.Test.YtfokiijcpkhllaaDoorFdQ6
import Derived.Test.YtfokiijcpkhllaaDoorFdQ4
import Derived.Test.YtfokiijcpkhllaaDoorFdQ13
import Derived.Test.YtfokiijcpkhllaaDoorFdQ14
import Derived.Test.YtfokiijcpkhllaaDoorFdQ10
import Derived.Deep.RegionLaw
namespace Go.Proofs.YtfokiijcpkhllaaDoor

/-- Two neighbours at most. -/
def N2 (R : Nat → Nat → Prop) (v : Nat) : Prop := ∃ a b, ∀ x, R v x → x = a ∨ x = b
/-- One after another goes with two neighbours at most. -/
def El : (Nat → Nat → Prop) → List Nat → Prop
  | _, [] => True
  | R, v :: L => N2 R v ∧ El (goneR R v) L
theorem goneR_swap {R : Nat → Nat → Prop} (hs : ∀ x y, R x y → R y x) (u v : Nat) : goneR (goneR R u) v = goneR (goneR R v) u := by
  have h : ∀ u v x y, u ≠ v → goneR (goneR R u) v x y → goneR (goneR R v) u x y := by
    rintro u v x y huv ⟨h1, h2, h3, h4⟩
    rcases h4 with ⟨h4, h5, _, h6⟩ | ⟨⟨h4, h5, _, h6⟩, ⟨_, h8, _, h9⟩⟩
    · refine ⟨h4, h5, h3, ?_⟩
      rcases h6 with h6 | ⟨h6, h7⟩
      · exact .inl ⟨h1, h2, h3, .inl h6⟩
      · exact .inr ⟨⟨huv, h1, fun e => h4 e.symm, .inl h6⟩, ⟨huv, h2, fun e => h5 e.symm, .inl h7⟩⟩
    · refine ⟨h5, h8, h3, ?_⟩
      have hu : u ≠ v := fun e => h4 e.symm
      rcases h6 with h6 | ⟨h6, h7⟩ <;> rcases h9 with h9 | ⟨h9, h10⟩
      · exact .inl ⟨h1, h2, h3, .inr ⟨h6, h9⟩⟩
      · exact .inr ⟨⟨hu, h1, fun e => h5 e.symm, .inr ⟨hs _ _ h9, h6⟩⟩, ⟨hu, h2, fun e => h8 e.symm, .inl h10⟩⟩
      · exact .inr ⟨⟨hu, h1, fun e => h5 e.symm, .inl h7⟩, ⟨hu, h2, fun e => h8 e.symm, .inr ⟨hs _ _ h6, h9⟩⟩⟩
      · exact .inr ⟨⟨hu, h1, fun e => h5 e.symm, .inl h7⟩, ⟨hu, h2, fun e => h8 e.symm, .inl h10⟩⟩
  by_cases e : u = v
  · rw [e]
  · funext x y
    exact propext ⟨h u v x y e, h v u x y (Ne.symm e)⟩
theorem goneR_sym {R : Nat → Nat → Prop} (hs : ∀ x y, R x y → R y x) (v : Nat) : ∀ x y, goneR R v x y → goneR R v y x := fun _ _ ⟨a, b, c, d⟩ => ⟨b, a, Ne.symm c, d.elim (fun h => .inl (hs _ _ h)) fun ⟨p, q⟩ => .inr ⟨q, p⟩⟩
theorem N2.gone {R : Nat → Nat → Prop} (hs : ∀ x y, R x y → R y x) {u v : Nat} (hu : N2 R u) (hv : N2 R v) : N2 (goneR R v) u := by
  obtain ⟨a, b, hab⟩ := hu
  by_cases c : R u v
  · have one : ∀ {w t : Nat}, N2 R w → R w t → ∃ c, ∀ x, R w x → x = t ∨ x = c := by
      rintro w t ⟨a, b, h⟩ ht
      rcases h t ht with rfl | rfl
      · exact ⟨b, h⟩
      · exact ⟨a, fun x hx => (h x hx).symm⟩
    obtain ⟨p, hp⟩ := one ⟨a, b, hab⟩ c
    obtain ⟨q, hq⟩ := one hv (hs _ _ c)
    refine ⟨p, q, fun x ⟨_, h2, h3, h4⟩ => ?_⟩
    rcases h4 with h4 | ⟨_, h4⟩
    · exact .inl ((hp x h4).resolve_left h2)
    · exact .inr ((hq x h4).resolve_left fun e => h3 e.symm)
  · refine ⟨a, b, fun x ⟨_, _, _, h4⟩ => hab x (h4.resolve_right fun h => c (hs _ _ h.1))⟩
theorem el_gone : ∀ (L : List Nat) (R : Nat → Nat → Prop), (∀ x y, R x y → R y x) → El R L → ∀ u, u ∈ L → N2 R u → El (goneR R u) (L.erase u)
  | [], _, _, _, _, h, _ => by cases h
  | v :: L, R, hs, h, u, hu, h2 => by
    by_cases e : v = u
    · subst e
      rw [List.erase_cons_head]
      exact h.2
    · rw [List.erase_cons_tail (by simpa using e)]
      refine ⟨h.1.gone hs h2, ?_⟩
      rw [goneR_swap hs]
      exact el_gone L _ (goneR_sym hs v) h.2 u ((List.mem_cons.1 hu).resolve_left fun e' => e e'.symm) (h2.gone hs h.1)
theorem inS_put {s v t : Nat} : inS (s ||| 2 ^ v) t ↔ inS s t ∨ t = v := by
  unfold inS
  rw [testBit_put, Bool.or_eq_true, decide_eq_true_eq]
  exact or_congr Iff.rfl ⟨Eq.symm, Eq.symm⟩
theorem viaR_goneEq {E : Nat → Nat → Bool} {s v : Nat} (hE : ∀ x y, E x y = true → E y x = true) (hv : s.testBit v = false) : viaR E (s ||| 2 ^ v) = goneR (viaR E s) v := by
  funext x y
  refine propext ⟨fun h => ?_, viaR_gone hE⟩
  obtain ⟨h1, h2, h3, z, h4, h5⟩ := h
  rw [testBit_put, Bool.or_eq_false_iff, decide_eq_false_iff_not] at h1 h2
  have key : ∀ z, Rch E (inS (s ||| 2 ^ v)) x z → Rch E (inS s) x z ∨ ((∃ t, Rch E (inS s) x t ∧ E t v = true) ∧ Rch E (inS s) v z) := by
    intro z hz
    induction hz with
    | base => exact .inl .base
    | @step a b _ hab hb ih =>
      rcases inS_put.1 hb with hb | rfl
      · exact ih.elim (fun h => .inl (.step h hab hb)) fun ⟨h, k⟩ => .inr ⟨h, .step k hab hb⟩
      · exact .inr ⟨ih.elim (fun h => ⟨a, h, hab⟩) fun h => h.1, .base⟩
  refine ⟨fun e => h1.2 e.symm, fun e => h2.2 e.symm, h3, ?_⟩
  rcases key z h4 with k | ⟨⟨t, k1, k2⟩, k3⟩
  · exact .inl ⟨h1.1, h2.1, h3, z, k, h5⟩
  · exact .inr ⟨viaR_sym hE ⟨h1.1, hv, fun e => h1.2 e.symm, t, k1, k2⟩, hv, h2.1, h2.2, z, k3, h5⟩
theorem mem_freeS_put {n s v x : Nat} : x ∈ freeS n (s ||| 2 ^ v) ↔ x ∈ freeS n s ∧ x ≠ v := by
  rw [mem_freeS, mem_freeS, testBit_put, Bool.or_eq_false_iff, decide_eq_false_iff_not, and_assoc]
  exact and_congr Iff.rfl (and_congr Iff.rfl ⟨Ne.symm, Ne.symm⟩)
theorem n2_of_len {l : List Nat} (h : l.length ≤ 2) : ∃ a b, ∀ x ∈ l, x = a ∨ x = b := by
  rcases l with _ | ⟨p, _ | ⟨q, _ | ⟨r, l⟩⟩⟩
  · exact ⟨0, 0, fun x h => by cases h⟩
  · exact ⟨p, p, fun x h => .inl (by simpa using h)⟩
  · exact ⟨p, q, fun x h => by simpa using h⟩
  · simp at h
theorem len_of_n2 {l : List Nat} (hd : l.Nodup) {a b : Nat} (h : ∀ x ∈ l, x = a ∨ x = b) : l.length ≤ 2 := by
  have := sub_len l [a, b] hd fun x hx => by simpa using h x hx
  simpa using this
theorem behS_via {n : Nat} {E : Nat → Nat → Bool} {s v u : Nat} (hEn : ∀ x y, E x y = true → y < n) (hv : s.testBit v = false) : u ∈ behS n E s v ↔ viaR E s v u := by
  rw [mem_behS]
  constructor
  · rintro ⟨_, h2, h3, z, h4, h5⟩
    exact ⟨hv, h2, Ne.symm h3, z, h4, h5⟩
  · rintro ⟨_, h2, h3, z, h4, h5⟩
    exact ⟨hEn _ _ h5, h2, Ne.symm h3, z, h4, h5⟩
theorem el_tw {n : Nat} {E : Nat → Nat → Bool} (hE : ∀ x y, E x y = true → E y x = true) (hEn : ∀ x y, E x y = true → y < n) : ∀ (r s : Nat), (freeS n s).length = r → (twS n E s ≤ 2 ↔ ∃ L : List Nat, El (viaR E s) L ∧ L.Nodup ∧ ∀ x, x ∈ L ↔ x ∈ freeS n s)
  | r, s, hr => by
    have h := twS_eq n E s
    constructor
    · intro h2
      by_cases hn : freeS n s = []
      · exact ⟨[], trivial, List.nodup_nil, fun x => by rw [hn]⟩
      · obtain ⟨x, hx, e⟩ := minO_some (l := (freeS n s).map (valS n E s)) (by simpa using hn)
        obtain ⟨v, hv, rfl⟩ := List.mem_map.1 hx
        have hf := freeS_put hv
        have hvs := (mem_freeS.1 hv).2
        have h3 : valS n E s v ≤ 2 := by omega
        unfold valS at h3
        match r, hr with
        | 0, hr => omega
        | r + 1, hr =>
          obtain ⟨L, k1, k2, k3⟩ := (el_tw hE hEn r (s ||| 2 ^ v) (by omega)).1 (by omega)
          rw [viaR_goneEq hE hvs] at k1
          refine ⟨v :: L, ⟨?_, k1⟩, List.nodup_cons.2 ⟨fun hm => (mem_freeS_put.1 ((k3 v).1 hm)).2 rfl, k2⟩, fun x => ?_⟩
          · obtain ⟨a, b, hab⟩ := n2_of_len (l := behS n E s v) (by omega)
            exact ⟨a, b, fun x hx => hab x ((behS_via hEn hvs).2 hx)⟩
          · rw [List.mem_cons, k3, mem_freeS_put]
            by_cases e : x = v
            · subst e; simp [hv]
            · simp [e]
    · rintro ⟨L, k1, k2, k3⟩
      rcases L with _ | ⟨v, L⟩
      · have : freeS n s = [] := List.eq_nil_iff_forall_not_mem.2 fun x hx => by have := (k3 x).2 hx; cases this
        rw [this, List.map_nil, minO_nil] at h
        omega
      · have hv := (k3 v).1 (List.mem_cons_self ..)
        have hf := freeS_put hv
        have hvs := (mem_freeS.1 hv).2
        obtain ⟨⟨a, b, hab⟩, k1⟩ := k1
        have k2' := List.nodup_cons.1 k2
        have h1 : (behS n E s v).length ≤ 2 := len_of_n2 ((behS_rising n E s v).imp fun h => by omega) fun x hx => hab x ((behS_via hEn hvs).1 hx)
        match r, hr with
        | 0, hr => omega
        | r + 1, hr =>
          have h2 := (el_tw hE hEn r (s ||| 2 ^ v) (by omega)).2 ⟨L, by rw [viaR_goneEq hE hvs]; exact k1, k2'.2, fun x => by
            rw [mem_freeS_put, ← k3 x, List.mem_cons]
            constructor
            · intro hx; exact ⟨.inr hx, fun e => k2'.1 (e ▸ hx)⟩
            · rintro ⟨h, e⟩; exact h.resolve_left e⟩
          have h3 := minO_le (l := (freeS n s).map (valS n E s)) _ (List.mem_map_of_mem hv)
          have h4 : valS n E s v ≤ 2 := by unfold valS; omega
          omega
theorem folds_el {g : List (List Int)} {left : List Int} {fs : List Fd} {l : List Int} {g' : List (List Int)} (h : Folds g left fs l g') : GOk g → SetIn g.length left → InnR g left →
    ((∃ L : List Nat, El (adjR g) L ∧ L.Nodup ∧ ∀ x : Nat, x ∈ L ↔ (x : Int) ∈ left) ↔ l = []) := by
  induction h with
  | @stop g left h =>
    intro hg hl _
    constructor
    · rintro ⟨L, h1, h2, h3⟩
      rcases L with _ | ⟨v, L⟩
      · refine List.eq_nil_iff_forall_not_mem.2 fun x hx => ?_
        obtain ⟨m, rfl⟩ := Int.eq_ofNat_of_zero_le (hl.1 x hx).1
        have := (h3 m).2 hx
        cases this
      · have hv := (h3 v).1 (List.mem_cons_self ..)
        have hvn := hl.1 _ hv
        obtain ⟨a, b, hab⟩ := h1.1
        have h4 : 2 < (row g v).length := h _ hv
        have hs := (hg.sets v (by omega)).1
        have h5 : ((row g v).map Int.toNat).length ≤ 2 := len_of_n2 (a := a) (b := b) (by
          rw [List.Nodup, List.pairwise_map]
          exact hs.2.imp_of_mem fun {x y} hx hy hxy => by have := hs.1 x hx; have := hs.1 y hy; omega) fun x hx => by
            obtain ⟨t, ht, rfl⟩ := List.mem_map.1 hx
            refine hab _ ?_
            unfold adjR
            rw [Int.toNat_of_nonneg (hs.1 t ht).1]
            exact ht
        rw [List.length_map] at h5
        omega
    · rintro rfl
      exact ⟨[], trivial, List.nodup_nil, fun x => by simp⟩
  | @step g l1 l2 v fs l g' h1 h2 h ih =>
    intro hg hl hi
    have hv := hl.1 v (by simp)
    obtain ⟨n, rfl⟩ := Int.eq_ofNat_of_zero_le hv.1
    have hn : n < g.length := by omega
    have h2' : (row g n).length ≤ 2 := h2
    have hR : adjR (foldG g (atRow n (row g n))) = goneR (adjR g) n := by
      funext x y
      exact propext (adjR_fold hg hn h2' x y)
    have r := ih (foldG_ok hg hn h2') ⟨fun x hx => by rw [foldG_length]; exact hl.1 x (mem_lessL.1 hx).1, lessL_rising hl.2 _⟩ fun x y hxy => by
      have hxy' := (adjR_fold hg hn h2' x y).1 hxy
      refine mem_lessL.2 ⟨?_, by have := hxy'.2.1; omega⟩
      rcases hxy'.2.2.2 with r | r
      · exact hi _ _ r
      · exact hi _ _ r.2
    rw [← r]
    have e0 : adjR (foldG g (atRow (n : Int) (row g ((n : Int)).toNat))) = goneR (adjR g) n := hR
    rw [e0]
    have hn2 : N2 (adjR g) n := few_near hg hn h2'
    constructor
    · rintro ⟨L, k1, k2, k3⟩
      refine ⟨L.erase n, el_gone L _ (adjR_sym hg) k1 n ((k3 n).2 (by simp)) hn2, k2.erase n, fun x => ?_⟩
      rw [k2.mem_erase_iff, k3, mem_lessL, and_comm]
      exact and_congr Iff.rfl ⟨fun h e => h (by omega), fun h e => h (by omega)⟩
    · rintro ⟨L, k1, k2, k3⟩
      refine ⟨n :: L, ⟨hn2, k1⟩, List.nodup_cons.2 ⟨fun hm => (mem_lessL.1 ((k3 n).1 hm)).2 rfl, k2⟩, fun x => ?_⟩
      rw [List.mem_cons, k3, mem_lessL]
      by_cases e : x = n
      · subst e; simp
      · have : ¬ (x : Int) = n := by omega
        simp [e, this]
theorem viaR_none {g : List (List Int)} (hg : GOk g) : viaR (ofG g) 0 = adjR g := by
  funext x y
  refine propext ⟨fun h => ?_, fun h => viaR_zero (ofG_irr hg) x y (decide_eq_true h)⟩
  obtain ⟨_, _, _, z, h4, h5⟩ := h
  have : z = x := by
    cases h4 with
    | base => rfl
    | step _ _ h => exact absurd (show (0 : Nat).testBit z = true from h) (by simp)
  rw [this] at h5
  unfold ofG at h5
  exact of_decide_eq_true (p := ((y : Int) ∈ row g x)) h5
theorem ser_tw {g : List (List Int)} (hg : GOk g) : SerS g ↔ twS g.length (ofG g) 0 ≤ 2 := by
  obtain ⟨fs, l, g', h⟩ := folds_total _ g (allL g.length) (Nat.le_refl _)
  have hEn : ∀ x y, ofG g x y = true → y < g.length := fun x y e => by
    unfold ofG at e
    exact adjR_lt hg (adjR_sym hg x y (of_decide_eq_true (p := ((y : Int) ∈ row g x)) e))
  rw [serS_iff hg h, el_tw (ofG_sym hg) hEn _ 0 rfl, viaR_none hg, List.length_eq_zero_iff]
  have hall : ∀ x : Nat, x ∈ freeS g.length 0 ↔ (x : Int) ∈ allL g.length := fun x => by
    rw [mem_freeS, mem_allL]
    simp
  have := folds_el h hg ⟨fun x hx => mem_allL.1 hx, allL_rising _⟩ fun x y hxy => by
    have := adjR_lt hg (adjR_sym hg x y hxy)
    rw [mem_allL]; omega
  rw [← this]
  exact ⟨fun ⟨L, a, b, c⟩ => ⟨L, a, b, fun x => (c x).trans (hall x).symm⟩, fun ⟨L, a, b, c⟩ => ⟨L, a, b, fun x => (c x).trans (hall x)⟩⟩

end Go.Proofs.YtfokiijcpkhllaaDoor

/- Walks: graphs that the reference makes. -/
namespace Go.Proofs.YtfokiijcpkhllaaDoor
open Go.RowKit

/-- v is a graph whose outer row is the callee's own; its rows are read alone. -/
def SG (w : World) (base : Nat) (v : Value) (g : List (List Int)) : Prop :=
  ∃ u vals, v = .agg #[u] ∧ vals.length = g.length ∧ w.ownsRow base 32 1 u g.length vals ∧ ∀ j, j < g.length → Nums w 2 .i64 (vals.getD j undef) (row g j)
theorem SG.below {w w' : World} {base : Nat} {v : Value} {g : List (List Int)} (h : SG w base v g) (hb : Below w.heap.size w w') : SG w' base v g := by
  obtain ⟨u, vals, h1, h2, h3, h4⟩ := h
  exact ⟨u, vals, h1, h2, ownsRow_below h3 hb, fun j hj => (h4 j hj).below hb⟩
theorem SG.gr {w : World} {base : Nat} {v : Value} {g : List (List Int)} (h : SG w base v g) (hn : g.length ≤ 1000000000) : Gr w v g := by
  obtain ⟨u, vals, rfl, h2, h3, h4⟩ := h
  exact ⟨u, rfl, Rws.of_owned vals h2 h3 hn h4⟩
theorem SG.shape {w : World} {base : Nat} {v : Value} {g : List (List Int)} (h : SG w base v g) : ∃ p c, v = .agg #[.slice p g.length c] := by
  obtain ⟨u, vals, rfl, h2, h3, h4⟩ := h
  rcases h3.2 with ⟨rfl, h0⟩ | ⟨b, c, _, rfl, _⟩
  · exact ⟨none, 0, by rw [h0]⟩
  · exact ⟨_, _, rfl⟩

/-- Two boxes of a graph: the result's, and the one that grows. -/
theorem two_boxes (w : World) : ∃ W, W = (w.alloc (.cells #[.slice none 0 0] 29)).alloc (.cells #[.slice none 0 0] 29) ∧ Below w.heap.size w W ∧ W.heap.size = w.heap.size + 2 ∧
    Box W w.heap.size 29 (.slice none 0 0) ∧ Box W (w.heap.size + 1) 29 (.slice none 0 0) := by
  refine ⟨_, rfl, below_alloc2 _ _ _, by rw [size_alloc, size_alloc], (Box.new w _ _).alloc _, ?_⟩
  have := Box.new (w.alloc (.cells #[.slice none 0 0] 29)) (.slice none 0 0) 29
  rw [size_alloc] at this
  exact this

/-- What a round leaves that puts a row behind the others. -/
theorem box_step {w wr wc w7 : World} {k b7 c8 : Nat} {ov x rv : Value} {vals : List Value}
    (hbel : Below w.heap.size w wr) (hsz : w.heap.size + 2 ≤ wr.heap.size) (hbc : Below wr.heap.size wr wc)
    (hb2 : Box wr w.heap.size 29 x) (hb3 : Box wr (w.heap.size + 1) 29 ov) (hown : wr.ownsRow (w.heap.size + 2) 32 1 ov k vals)
    (hown7 : w7.ownsRow (w.heap.size + 2) 32 1 (.slice (some ⟨b7, 0, none⟩) (k + 1) c8) (k + 1) (vals ++ [rv])) (hg7 : wc.grownBy w7 ov.ownBlock) :
    ∃ W, W = w7.setCell ⟨w.heap.size + 1, 0, none⟩ (.slice (some ⟨b7, 0, none⟩) (k + 1) c8) ∧
      Below w.heap.size w W ∧ w.heap.size + 2 ≤ W.heap.size ∧ Box W w.heap.size 29 x ∧ Box W (w.heap.size + 1) 29 (.slice (some ⟨b7, 0, none⟩) (k + 1) c8) ∧ W.ownsRow (w.heap.size + 2) 32 1 (.slice (some ⟨b7, 0, none⟩) (k + 1) c8) (k + 1) (vals ++ [rv]) ∧
      (∀ base size n v (xs : List Value), wc.ownsRow base 2 size v n xs → W.ownsRow base 2 size v n xs) := by
  have hownc := ownsRow_below hown hbc
  have hszc := hbc.size
  have hsz7 := hg7.size
  have hb7 : Below (w.heap.size + 2) wc w7 := below_grown (Below.refl _ _) hownc hg7 (Nat.le_refl _) (by omega)
  have hb37 : Box w7 (w.heap.size + 1) 29 ov := (hb3.keep hbc).below hb7 (by omega)
  have hb9 : Below (w.heap.size + 1) w7 (w7.setCell ⟨w.heap.size + 1, 0, none⟩ (.slice (some ⟨b7, 0, none⟩) (k + 1) c8)) := (Below.refl _ _).setCell (by show w.heap.size + 1 ≤ w.heap.size + 1; omega) _
  have hall : Below (w.heap.size + 1) wr (w7.setCell ⟨w.heap.size + 1, 0, none⟩ (.slice (some ⟨b7, 0, none⟩) (k + 1) c8)) := ((hbc.mono (by omega)).trans (hb7.mono (by omega))).trans hb9
  refine ⟨_, rfl, hbel.trans (hall.mono (by omega)), by have := hall.size; omega, hb2.below hall (by omega), hb37.set _, ownsRow_setBox hown7 hb37 (by decide) _, fun base size n v xs h => ?_⟩
  exact ownsRow_setBox (ownsRow_other h hownc hg7 (by decide)) hb37 (by decide) _

set_option maxRecDepth 100000 in
set_option maxHeartbeats 2000000 in
theorem l1Empty_any (z : Int) (n : Nat) (hz : z = n) (hn : n ≤ 1000) (w : World) :
    Calls Tryd.prog 102 #[.int .i64 z] w fun e w' => ∃ u, e = .returned u ∧ SG w' w.heap.size u (List.replicate n []) ∧ Below w.heap.size w w' := by
  subst hz
  have START := Lib.hid (two_boxes w)
  go_enter Tryd.func102, Tryd.ntmps102
  go_wp2
  go_loopw [4] (fun i wr => ∃ (k : Nat) (ov : Value) (vals : List Value), k ≤ n ∧ i = .int .i64 k ∧ Below w.heap.size w wr ∧ w.heap.size + 2 ≤ wr.heap.size ∧
      Box wr w.heap.size 29 (.slice none 0 0) ∧ Box wr (w.heap.size + 1) 29 ov ∧ wr.ownsRow (w.heap.size + 2) 32 1 ov k vals ∧ vals.length = k ∧ ∀ j, j < k → ∃ a, vals.getD j undef = .slice (some a) 0 0)
    (fun i _ => n - (intOf i).toNat)
  case atStart =>
    obtain ⟨W, rfl, h1, h2, h3, h4⟩ := START.out
    exact ⟨0, _, [], Nat.zero_le _, rfl, h1, by omega, h3, h4, World.ownsRow_nil _ _ _ _, rfl, fun j hj => by omega⟩
  case round =>
    obtain ⟨k, ov, vals, hk, rfl, hbel, hsz, hb2, hb3, hown, hvl, hrows⟩ := hrel
    have Hvl := Lib.hid hvl
    have Hrows := Lib.hid hrows
    have Hb2 := Lib.hid hb2
    have Hb3 := Lib.hid hb3
    have Hown := Lib.hid hown
    clear hvl hrows hb3 hb2 hown
    by_cases hlt : k < n
    · have hba := Lib.hid (below_alloc wr (.cells #[] 2))
      have hownc := ownsRow_below Hown.out hba.out
      obtain ⟨c3, f3, _, _⟩ := Hb3.out
      have hob := fun o => (below_alloc2 wr (.cells #[] 2) o).at' c3
      go_wp2_with (at_builtin; refine wpList_app1s ty_rows rfl rfl rfl hownc (by rw [size_alloc]; rfl) rfl (by omega) (by rw [size_alloc]; omega) ?_; intro b7 c8 w7 hown7 hg7 _; have hb7 := below_grown (Below.refl (w.heap.size + 2) (wr.alloc (.cells #[] 2))) hownc hg7 (Nat.le_refl _) (by rw [size_alloc]; omega); have hob7 := hb7.at (by omega) ((below_alloc wr (.cells #[] 2)).at' c3); have hof7 := (hb7.frozen (p := ⟨w.heap.size + 1, 0, none⟩) (by show w.heap.size + 1 < _; omega)).trans (((below_alloc wr (.cells #[] 2)).frozen (p := ⟨w.heap.size + 1, 0, none⟩) (by show w.heap.size + 1 < _; omega)).trans f3))
      go_roundw
      case rel =>
        obtain ⟨W, rfl, r1, r2, r3, r4, r5, _⟩ := box_step hbel hsz hba.out Hb2.out Hb3.out Hown.out hown7 hg7
        refine ⟨k + 1, _, _, by omega, by go_num, r1, r2, r3, r4, r5, by simp [Hvl.out], fun j hj => ?_⟩
        by_cases e : j = k
        · subst e
          exact ⟨_, by rw [← Hvl.out]; exact getD_append_last _ _ _⟩
        · rw [getD_append_left _ _ _ _ (by have := Hvl.out; omega)]
          exact Hrows.out j (by omega)
      case measure => simp [intOf]; omega
    · obtain rfl : k = n := by omega
      obtain ⟨k2c, k2f, _⟩ := Hb2.out
      obtain ⟨k3c, k3f, _⟩ := Hb3.out
      obtain ⟨p9, c9, rfl⟩ : ∃ p c, ov = .slice p k c := by
        rcases Hown.out.2 with ⟨h1, h2⟩ | ⟨g1, cap, cur, h1, _⟩
        · exact ⟨none, 0, by rw [h1, h2]⟩
        · exact ⟨_, _, h1⟩
      go_wp2
      refine bodyPost_ret (v := .agg #[.slice p9 k c9]) (by simp [results, Tryd.results102, go_sem, k2c]) rfl ⟨_, rfl, ⟨_, vals, rfl, by simpa using Hvl.out, ?_, fun j hj => ?_⟩, ?_⟩
      · rw [List.length_replicate]; exact ownsRow_base (ownsRow_setBox Hown.out Hb2.out (by decide) (.slice p9 k c9)) (by omega)
      · rw [List.length_replicate] at hj
        obtain ⟨a, ha⟩ := Hrows.out j hj
        rw [ha, show row (List.replicate k ([] : List Int)) j = [] by simp [row, hj]]
        exact Sl.nothing _ _ _ _ (by simp)
      · exact hbel.setCell (by show w.heap.size ≤ w.heap.size; omega) _

set_option maxRecDepth 100000 in
theorem l1Edge_any (v : Value) (g : List (List Int)) (y z : Int) (u k : Nat) (hy : y = u) (hz : z = k) (hu : u < g.length) (w : World) (hg : Gr w v g) :
    Calls Tryd.prog 116 #[v, .int .i64 y, .int .i64 z] w fun e w' => e = .returned (.bool (dec ((k : Int) ∈ row g u))) ∧ Below w.heap.size w w' := by
  subst hy; subst hz
  obtain ⟨u0, rfl, hr⟩ := hg
  obtain ⟨p, c, rfl, _, _, hn⟩ := hr.shape
  have hb := below_alloc w (.cells #[.slice p g.length c] 29)
  obtain ⟨b, o, rp, rc, rfl, hcell, hnums⟩ := (hr.below hb).get hu
  change World.cell? _ _ = some (.slice rp (row g u).length rc) at hcell
  change Nums _ _ _ (.slice rp (row g u).length rc) (row g u) at hnums
  have Hb := Lib.hid hb
  clear hb hr
  go_enter Tryd.func116, Tryd.ntmps116
  go_wp2_with (go_at_call 66; refine (l1Has_any _ _ k _ hnums).mono ?_; rintro e w2 ⟨rfl, rfl⟩)
  go_ret
  exact ⟨rfl, Hb.out⟩

end Go.Proofs.YtfokiijcpkhllaaDoor

/- Walks: the program's graph of some vertices; a graph made of masks. -/
namespace Go.Proofs.YtfokiijcpkhllaaDoor
open Go.RowKit

theorem step_app1s {P : Program} {T E : TypeId} {z : Value} {bytes : Nat} (S : SlTy P T E z 1 bytes) {w : World} {ops : Array Oper} {o : Oper} {a : Act} {K : Act → World → Prop} {Q : Exit → Act → World → Prop} {F : Prop}
    (hgd : o.guard = none) {s x : Operand} (ho : o.op = .call { callee := .builtin .append, args := #[s, x], argTypes := #[T, T] })
    {base : Nat} {v : Value} {n : Nat} {xs : List Value} {el : Value} (hs : a.eval s = v) (hown : w.ownsRow base E 1 v n xs)
    (hx : a.eval x = .slice (some ⟨w.heap.size, 0, none⟩) 1 1) (h1 : el.oneCell' = true)
    (hnm : n < 1000000000) (hbase : base ≤ w.heap.size)
    (h : ∀ b c w', w'.ownsRow base E 1 (.slice (some ⟨b, 0, none⟩) (n + 1) c) (n + 1) (xs ++ [el]) → w.grownBy w' v.ownBlock → K (a.put o.dst (.slice (some ⟨b, 0, none⟩) (n + 1) c)) w') :
    if Region.wanted o (yielded ops a.tmps) = true then Oper.wp P o a (w.alloc (.cells #[el] E)) K Q else F := by
  have hw : Region.wanted o (yielded ops a.tmps) = true := by simp [Region.wanted, hgd]
  rw [if_pos hw]
  have hal : (w.alloc (.cells #[el] E)).heap.size = w.heap.size + 1 := by show (w.heap.push _).size = _; simp
  have hu : Sl (w.alloc (.cells #[el] E)) E (.slice (some ⟨w.heap.size, 0, none⟩) 1 1) 1 [el] := by
    refine ⟨_, 1, rfl, (fun e => by cases e), Nat.le_refl _, by omega, Or.inr ⟨w.heap.size, 0, #[el], (0, 0), rfl, heap_alloc_new w _, ?_⟩⟩
    intro j u hu
    match j, hu with
    | 0, hu => simpa using hu
    | j + 1, hu => simp at hu
  obtain ⟨v', w', hr, h2, h3, h4⟩ := run_app S (w.alloc (.cells #[el] E)) o.type base v n xs (hown.alloc _) _ 1 [el] hu (by simp) (by simpa using h1) (by omega) (by omega)
  unfold Oper.wp execOp
  simp only [ho, resolve, invoke, builtin, Sem.run_bind, Sem.run_pure, Result.andThen_ok, List.map_toArray, List.map_cons, List.map_nil, hs, hx, hr]
  rcases id h2.2 with ⟨_, h0⟩ | ⟨g, cap, cur, rfl, _⟩
  · omega
  · exact h g cap w' h2 ⟨h3.os, h3.tape, h3.output, by have := h3.size; omega, fun k hk hne => (h3.block k (by omega) hne).trans (Below.heap_alloc w _ k hk)⟩

set_option maxRecDepth 100000 in
set_option maxHeartbeats 4000000 in
theorem induced_any (x lv : Value) (a l : List Nat) (h16 : a.length ≤ 16) (ha : ∀ s ∈ a, s < 65536) (hl : ∀ v ∈ l, v < a.length) (hm : l.length ≤ 16) (w : World)
    (hx : Sl w 64 x a.length (a.map u32v)) (hn : Nums w 3 .i64 lv (natInts l)) :
    Calls Tryd.prog 75 #[x, lv] w fun e w' => ∃ u, e = .returned u ∧
      w'.ownsRow w.heap.size 64 1 u l.length ((indN l.length (bitE a l)).map u32v) ∧ Below w.heap.size w w' := by
  obtain ⟨p, c, rfl, _⟩ := id hx
  obtain ⟨lp, lc, rfl, _⟩ := id hn.shape
  have hll := natInts_length l
  rw [hll] at hn ⊢
  have HX := Lib.hid hx
  have HN := Lib.hid hn
  clear hx hn
  go_enter Tryd.func75, Tryd.ntmps75
  go_wp2_with (at_make; refine wpList_mk ty_nets rfl rfl rfl l.length rfl rfl rfl rfl (by omega) ?_; intro w1 hown1 hg1)
  have hb1 := grown_below hg1
  have START : Hid (w1.ownsRow w.heap.size 64 1 (.slice (some ⟨w.heap.size, 0, none⟩) l.length l.length) l.length ((indN l.length (rowsE (bitE a l) 0 0)).map u32v) ∧ Below w.heap.size w w1) := Lib.hid
    ⟨by rw [rows_start, List.map_replicate]; exact hown1, hb1⟩
  clear hg1 hown1 hb1
  go_loopw [15] (fun i wr => ∃ k : Nat, k ≤ l.length ∧ i = .int .i64 k ∧ wr.ownsRow w.heap.size 64 1 (.slice (some ⟨w.heap.size, 0, none⟩) l.length l.length) l.length ((indN l.length (rowsE (bitE a l) k 0)).map u32v) ∧ Below w.heap.size w wr)
    (fun i _ => l.length - (intOf i).toNat)
  case atStart => exact ⟨0, Nat.zero_le _, rfl, START.out⟩
  case round =>
    obtain ⟨i, hi, rfl, hown, hbel⟩ := hrel
    have HI := Lib.hid hown
    clear hown
    by_cases hlt : i < l.length
    · have hin := hl _ (List.getElem_mem hlt)
      obtain ⟨b, o, rfl, hci⟩ := (HN.out.below hbel).get (k := i) (by rw [hll]; exact hlt)
      rw [show (natInts l)[i]'(by rw [hll]; exact hlt) = ((l[i] : Nat) : Int) by simp [natInts]] at hci
      go_wp2_with fail
      clear hci
      go_loopw [22] (fun i' wr => ∃ k : Nat, k ≤ l.length ∧ i' = .int .i64 k ∧ wr.ownsRow w.heap.size 64 1 (.slice (some ⟨w.heap.size, 0, none⟩) l.length l.length) l.length ((indN l.length (rowsE (bitE a l) i k)).map u32v) ∧ Below w.heap.size w wr)
        (fun i' _ => l.length - (intOf i').toNat)
      case atStart => exact ⟨0, Nat.zero_le _, rfl, HI.out, hbel⟩
      case round =>
        clear HI hbel
        obtain ⟨k, hk, rfl, hown, hbel⟩ := hrel
        by_cases hlt2 : k < l.length
        · have hkn := hl _ (List.getElem_mem hlt2)
          obtain ⟨_, _, hbo, hck⟩ := (HN.out.below hbel).get (k := k) (by rw [hll]; exact hlt2)
          cases hbo
          rw [show (natInts l)[k]'(by rw [hll]; exact hlt2) = ((l[k] : Nat) : Int) by simp [natInts]] at hck
          obtain ⟨ab, ao, rfl, hca⟩ := nets_cell (HX.out.below hbel) hin
          have hs16 := ha _ (List.getElem_mem hin)
          have hbit : Hid (a[l[i]].testBit l[k] = bitE a l i k) := Lib.hid (by unfold bitE; simp [hlt, hlt2, hin])
          have e0 : (0 : Int) ≤ (k : Int) := by omega
          have hrl := hown.cellAt i (by omega)
          have hfz := hown.frozenAt i
          have hil : i < (indN l.length (rowsE (bitE a l) i k)).length := by rw [indN_length]; exact hlt
          rw [List.getElem?_map, List.getElem?_eq_getElem hil] at hrl
          change wr.cell? _ = some (.int .u32 (((indN l.length (rowsE (bitE a l) i k))[i] : Nat) : Int)) at hrl
          have hr16 := indN_lt16 (E := rowsE (bitE a l) i k) hm _ (List.getElem_mem hil)
          obtain ⟨ho2, hg2⟩ := hown.stored i (.int .u32 (((indN l.length (rowsE (bitE a l) i k))[i] ||| 2 ^ k : Nat) : Int))
          have hb2 := below_grown hbel hown hg2 (Nat.le_refl _) hbel.size
          have hyes : Hid (bitE a l i k = true → ((indN l.length (rowsE (bitE a l) i k)).map u32v).set i (.int .u32 (((indN l.length (rowsE (bitE a l) i k))[i] ||| 2 ^ k : Nat) : Int)) = (indN l.length (rowsE (bitE a l) i (k + 1))).map u32v) := Lib.hid (fun he => by
            rw [← rows_yes hlt hlt2 he, List.map_set]
            have : (indN l.length (rowsE (bitE a l) i k)).getD i 0 = (indN l.length (rowsE (bitE a l) i k))[i] := by simp [hil]
            rw [this]; rfl)
          have Hown := Lib.hid hown
          have Ho2 := Lib.hid ho2
          have Hb2 := Lib.hid hb2
          have Hbel := Lib.hid hbel
          have hor := or_u32 (indN l.length (rowsE (bitE a l) i k))[i] (2 ^ k) hr16 (pow_lt16 k (by omega))
          generalize (indN l.length (rowsE (bitE a l) i k))[i] = m0 at hrl hr16 hyes Ho2 Hb2 hor
          have c1 := Lib.hid (fun w => one_any (k : Int) k rfl (by omega) w)
          clear hown ho2 hb2 hg2 hbel hil
          cases hE' : bitE a l i k
          · rw [hE'] at hbit
            have hb' := hbit.out
            go_wp2_with (go_at_call 71; refine (has_any _ _ a[l[i]] l[k] rfl rfl (by omega) (by omega) _).mono ?_; rintro e w2 ⟨rfl, rfl⟩)
            go_roundw
            case rel => exact ⟨k + 1, by omega, by go_num, by rw [← rows_no hE']; exact Hown.out, Hbel.out⟩
            case measure => simp [intOf]; omega
          · rw [hE'] at hbit
            have hb' := hbit.out
            generalize 2 ^ k = pk at *
            go_upto_region 9 with (go_at_call 71; refine (has_any _ _ a[l[i]] l[k] rfl rfl (by omega) (by omega) _).mono ?_; rintro e w2 ⟨rfl, rfl⟩)
            go_region_with (go_at_call 74; refine (c1.out _).mono ?_; rintro e w2 ⟨rfl, rfl⟩)
            all_goals go_wp2
            all_goals go_roundw
            all_goals first
              | exact ⟨k + 1, by omega, by go_num, by rw [← hyes.out hE']; exact Ho2.out, ⟨Hb2.out.os, Hb2.out.tape, Hb2.out.output, Hb2.out.size, Hb2.out.block⟩⟩
              | (simp [intOf]; omega)
        · obtain rfl : k = l.length := by omega
          go_wp2
          go_roundw
          case rel => exact ⟨i + 1, by omega, by go_num, by rw [← rows_row]; exact hown, hbel⟩
          case measure => simp [intOf]; omega
    · obtain rfl : i = l.length := by omega
      go_wp2
      go_ret
      exact ⟨_, rfl, by rw [← rows_end]; exact HI.out, hbel⟩

end Go.Proofs.YtfokiijcpkhllaaDoor
