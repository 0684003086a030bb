/- Walks: what the exact laws do with their arguments and results: size, copy, compare, mark, hold. -/
import Derived.Test.YtfphapcgjlhieaaDoorGtQ4
import Derived.Deep.RegionWith
namespace Go.Proofs.YtfphapcgjlhieaaDoor
open Go.RowKit

/-- From p on lie the cells vals, whatever the block says of its elements: what an argument reads as. -/
def Cl (w : World) (p : Option Addr) (vals : List Value) : Prop :=
  vals = [] ∨ ∃ b o, p = some ⟨b, o, none⟩ ∧ ∀ j u, vals[j]? = some u → w.cell? ⟨b, o + j, none⟩ = some u
def ArgN (w : World) (v : Value) (xs : List Int) : Prop := ∃ p c, v = .slice p xs.length c ∧ xs.length ≤ 9223372036854775807 ∧ Cl w p (xs.map (Value.int .i64))
def ArgR (w : World) (v : Value) (g : List (List Int)) : Prop :=
  ∃ p c vals, v = .slice p g.length c ∧ g.length ≤ 9223372036854775807 ∧ vals.length = g.length ∧ Cl w p vals ∧ ∀ j, j < g.length → ArgN w (vals.getD j undef) (g.getD j [])
/-- A law's graph. -/
def ArgG (w : World) (v : Value) (g : List (List Int)) : Prop := ∃ u, v = .agg #[u] ∧ ArgR w u g

theorem Cl.below {w w' : World} {p : Option Addr} {vals : List Value} (h : Cl w p vals) (hb : Below w.heap.size w w') : Cl w' p vals := by
  rcases h with h | ⟨b, o, h1, h2⟩
  · exact .inl h
  · exact .inr ⟨b, o, h1, fun j u hu => hb.at' (h2 j u hu)⟩
theorem ArgN.below {w w' : World} {v : Value} {xs : List Int} (h : ArgN w v xs) (hb : Below w.heap.size w w') : ArgN w' v xs := by
  obtain ⟨p, c, h1, h2, h3⟩ := h
  exact ⟨p, c, h1, h2, h3.below hb⟩
theorem ArgR.below {w w' : World} {v : Value} {g : List (List Int)} (h : ArgR w v g) (hb : Below w.heap.size w w') : ArgR w' v g := by
  obtain ⟨p, c, vals, h1, h2, h3, h4, h5⟩ := h
  exact ⟨p, c, vals, h1, h2, h3, h4.below hb, fun j hj => (h5 j hj).below hb⟩
theorem ArgG.below {w w' : World} {v : Value} {g : List (List Int)} (h : ArgG w v g) (hb : Below w.heap.size w w') : ArgG w' v g := by
  obtain ⟨u, h1, h2⟩ := h
  exact ⟨u, h1, h2.below hb⟩
theorem Cl.get {w : World} {p : Option Addr} {vals : List Value} (h : Cl w p vals) {k : Nat} (hk : k < vals.length) : ∃ b o, p = some ⟨b, o, none⟩ ∧ w.cell? ⟨b, o + k, none⟩ = some vals[k] := by
  rcases h with h | ⟨b, o, h1, h2⟩
  · subst h; simp at hk
  · exact ⟨b, o, h1, h2 k _ (by simp [hk])⟩
theorem Cl.num {w : World} {p : Option Addr} {xs : List Int} (h : Cl w p (xs.map (Value.int .i64))) {k : Nat} (hk : k < xs.length) : ∃ b o, p = some ⟨b, o, none⟩ ∧ w.cell? ⟨b, o + k, none⟩ = some (.int .i64 xs[k]) := by
  obtain ⟨b, o, h1, h2⟩ := h.get (k := k) (by simpa using hk)
  exact ⟨b, o, h1, by rw [h2]; simp⟩
theorem ArgR.get {w : World} {p : Option Addr} {n c : Nat} {g : List (List Int)} (h : ArgR w (.slice p n c) g) {k : Nat} (hk : k < g.length) :
    ∃ b o rp rc, p = some ⟨b, o, none⟩ ∧ w.cell? ⟨b, o + k, none⟩ = some (.slice rp (row g k).length rc) ∧ ArgN w (.slice rp (row g k).length rc) (row g k) := by
  obtain ⟨p', c', vals, he, _, hl, hcl, hr⟩ := h
  simp only [Value.slice.injEq] at he
  obtain ⟨rfl, rfl, rfl⟩ := he
  obtain ⟨b, o, hp, hc⟩ := hcl.get (k := k) (by omega)
  have hrow := hr k hk
  have e : vals.getD k undef = vals[k] := by simp [hl, hk]
  rw [e] at hrow
  obtain ⟨rp, rc, hv, _⟩ := id hrow
  rw [hv] at hc hrow
  exact ⟨b, o, rp, rc, hp, hc, hrow⟩

set_option maxRecDepth 100000 in
set_option maxHeartbeats 400000 in
theorem szInt64S_any (v : Value) (xs : List Int) (left : Int) (h0 : 0 ≤ left) (h1 : left ≤ 1048576) (w : World) (hx : ArgN w v xs) :
    Calls Tryd.prog 111 #[v, .int .i64 left] w fun e w' => (∃ z : Int, e = .returned (.int .i64 z) ∧ -1 ≤ z ∧ z ≤ left ∧ (0 ≤ z → (xs.length : Int) ≤ left)) ∧ w = w' := by
  obtain ⟨p, c, rfl, hn, _⟩ := hx
  by_cases h : left - xs.length < 0
  · go_enter Tryd.func111, Tryd.ntmps111
    go_wp2
    go_ret
    exact ⟨⟨-1, rfl, by omega, by omega, fun h => by omega⟩, rfl⟩
  · go_enter Tryd.func111, Tryd.ntmps111
    go_wp2
    go_ret
    exact ⟨⟨left - xs.length, rfl, by omega, by omega, fun h => by omega⟩, rfl⟩

set_option maxRecDepth 100000 in
set_option maxHeartbeats 1000000 in
theorem szInt64SS_any (v : Value) (g : List (List Int)) (left : Int) (h0 : 0 ≤ left) (h1 : left ≤ 1048576) (w : World) (hx : ArgR w v g) :
    Calls Tryd.prog 58 #[v, .int .i64 left] w fun e w' => (∃ z : Int, e = .returned (.int .i64 z) ∧ -1 ≤ z ∧ z ≤ left ∧ (0 ≤ z → (g.length : Int) ≤ left ∧ ∀ j, j < g.length → ((row g j).length : Int) ≤ left)) ∧ w = w' := by
  obtain ⟨p, c, vals, rfl, hn, hr⟩ := id hx
  clear hr
  by_cases h : left - g.length < 0
  · go_enter Tryd.func58, Tryd.ntmps58
    go_wp2
    go_ret
    exact ⟨⟨-1, rfl, by omega, by omega, fun h => by omega⟩, rfl⟩
  · go_enter Tryd.func58, Tryd.ntmps58
    go_wp2
    go_loop [1, 5] (fun l i => ∃ (k : Nat) (z : Int), k ≤ g.length ∧ i = .int .i64 k ∧ l = .int .i64 z ∧ 0 ≤ z ∧ z ≤ left ∧ ∀ j, j < k → ((row g j).length : Int) ≤ left) (fun _ i => g.length - (intOf i).toNat)
    case atStart => exact ⟨0, _, Nat.zero_le _, rfl, rfl, by omega, by omega, fun j hj => by omega⟩
    case round =>
      obtain ⟨k, z, hk, rfl, rfl, hz0, hz1, hrows⟩ := hrel
      have Hrows := Lib.hid hrows
      clear hrows
      by_cases hlt : k < g.length
      · obtain ⟨b, o, rp, rc, rfl, hcell, harg⟩ := hx.get hlt
        go_wp2_with (go_at_call 111; refine (szInt64S_any _ _ z hz0 (by omega) _ harg).mono ?_; rintro e w2 ⟨⟨y, rfl, hy1, hy2, hy3⟩, rfl⟩)
        · go_ret
          exact ⟨⟨-1, rfl, by omega, by omega, fun h => by omega⟩, rfl⟩
        · go_round
          case rel =>
            refine ⟨k + 1, y, by omega, by go_num, rfl, by omega, by omega, fun j hj => ?_⟩
            by_cases e : j = k
            · subst e; have := hy3 (by omega); omega
            · exact Hrows.out j (by omega)
          case measure => simp [intOf]; omega
      · obtain rfl : k = g.length := by omega
        go_wp2
        go_ret
        exact ⟨⟨z, rfl, by omega, by omega, fun _ => ⟨by omega, Hrows.out⟩⟩, rfl⟩

set_option maxRecDepth 100000 in
set_option maxHeartbeats 400000 in
theorem szGraph_any (v : Value) (g : List (List Int)) (left : Int) (h0 : 0 ≤ left) (h1 : left ≤ 1048576) (w : World) (hx : ArgG w v g) :
    Calls Tryd.prog 16 #[v, .int .i64 left] w fun e w' => (∃ z : Int, e = .returned (.int .i64 z) ∧ -1 ≤ z ∧ z ≤ left ∧ (0 ≤ z → (g.length : Int) ≤ left ∧ ∀ j, j < g.length → ((row g j).length : Int) ≤ left)) ∧ Below w.heap.size w w' := by
  obtain ⟨u, rfl, hr⟩ := hx
  obtain ⟨p, c, vals, rfl, hn, _⟩ := id hr
  have hb1 := below_alloc w (.cells #[.slice p g.length c] 36)
  have hr1 := hr.below hb1
  go_enter Tryd.func16, Tryd.ntmps16
  go_wp2_with (go_at_call 58; refine (szInt64SS_any _ g left h0 h1 _ hr1).mono ?_; rintro e w2 ⟨⟨y, rfl, hy1, hy2, hy3⟩, rfl⟩)
  · go_ret
    exact ⟨⟨-1, rfl, by omega, by omega, fun h => by omega⟩, hb1⟩
  · go_ret
    exact ⟨⟨y, rfl, hy1, hy2, hy3⟩, hb1⟩

theorem take_replicate_set {α : Type} (xs ys : List α) (k : Nat) (z : α) (hy : ys = xs.take k ++ List.replicate (xs.length - k) z) (hk : k < xs.length) :
    ys.set k xs[k] = xs.take (k + 1) ++ List.replicate (xs.length - (k + 1)) z := by
  subst hy
  have hl : (xs.take k).length = k := by rw [List.length_take]; omega
  have e : xs.length - k = (xs.length - (k + 1)) + 1 := by omega
  rw [List.set_append, if_neg (by omega), hl, Nat.sub_self, e, List.replicate_succ, List.set_cons_zero, take_snoc xs k hk, List.append_assoc]
  rfl

set_option maxRecDepth 100000 in
set_option maxHeartbeats 1000000 in
theorem toInt64S_any (v : Value) (xs : List Int) (h1 : xs.length ≤ 1048576) (w : World) (hx : ArgN w v xs) :
    Calls Tryd.prog 114 #[v] w fun e w' => ∃ u, e = .returned u ∧ (∃ b c, u = .slice (some ⟨b, 0, none⟩) xs.length c) ∧
      w'.ownsRow w.heap.size 2 1 u xs.length (xs.map (Value.int .i64)) ∧ Below w.heap.size w w' := by
  obtain ⟨p, c, rfl, hn, hat⟩ := hx
  go_enter Tryd.func114, Tryd.ntmps114
  go_wp2_with (at_make; refine wpList_mk ty_i64 rfl rfl rfl xs.length rfl rfl rfl rfl (by omega) ?_; intro w1 hown1 hg1)
  have hb1 := grown_below hg1
  clear hg1
  go_loopw [4] (fun i wr => ∃ k : Nat, k ≤ xs.length ∧ i = .int .i64 k ∧ wr.ownsRow w.heap.size 2 1 (.slice (some ⟨w.heap.size, 0, none⟩) xs.length xs.length) xs.length ((xs.map (Value.int .i64)).take k ++ List.replicate (xs.length - k) (.int .i64 0)) ∧ Below w.heap.size w wr)
    (fun i _ => xs.length - (intOf i).toNat)
  case atStart => exact ⟨0, Nat.zero_le _, rfl, by simpa using hown1, hb1⟩
  case round =>
    clear hown1 hb1
    obtain ⟨k, hk, rfl, hown, hbel⟩ := hrel
    by_cases hlt : k < xs.length
    · obtain ⟨b, o, rfl, hc⟩ := hat.num hlt
      have hcell := hbel.at (World.block_lt_of_cell? w _ hc) hc
      have hf := hown.frozenAt k
      have hc2 := hown.cellAt k (by omega)
      obtain ⟨old, hold⟩ : ∃ old, ((xs.map (Value.int .i64)).take k ++ List.replicate (xs.length - k) (.int .i64 0))[k]? = some old := ⟨_, List.getElem?_eq_getElem (by simp; omega)⟩
      rw [hold] at hc2
      obtain ⟨ho2, hg2⟩ := hown.stored k (.int .i64 xs[k])
      have Ho2 := Lib.hid ho2
      have hb2 := below_grown hbel hown hg2 (Nat.le_refl _) hbel.size
      clear hc hat hold hg2 ho2 hown
      go_wp2
      go_roundw
      case rel =>
        refine ⟨k + 1, by omega, by go_num, ?_, hb2⟩
        have e := take_replicate_set (xs.map (Value.int .i64)) _ k (.int .i64 0) rfl (by simpa using hlt)
        simp only [List.length_map, List.getElem_map] at e
        rw [← e]
        exact Ho2.out
      case measure => simp [intOf]; omega
    · obtain rfl : k = xs.length := by omega
      go_wp2
      go_ret
      have e : (xs.map (Value.int .i64)).take xs.length = xs.map (Value.int .i64) := List.take_of_length_le (by simp)
      rw [e, Nat.sub_self, List.replicate_zero, List.append_nil] at hown
      exact ⟨_, rfl, ⟨_, _, rfl⟩, hown, hbel⟩

end Go.Proofs.YtfphapcgjlhieaaDoor

/- Walks: what the exact laws do with their arguments and results, second part. -/
namespace Go.Proofs.YtfphapcgjlhieaaDoor
open Go.RowKit

/-- A slice of rows, each of its own, all in blocks from base on. -/
def OwnRws (w : World) (base : Nat) (v : Value) (g : List (List Int)) : Prop :=
  ∃ vals, vals.length = g.length ∧ w.ownsRow base 52 1 v g.length vals ∧ ∀ j, j < g.length → w.ownsRow base 2 1 (vals.getD j undef) (row g j).length ((row g j).map (Value.int .i64))
def OwnG (w : World) (base : Nat) (v : Value) (g : List (List Int)) : Prop := ∃ u, v = .agg #[u] ∧ OwnRws w base u g

theorem OwnRws.below {w w' : World} {base : Nat} {v : Value} {g : List (List Int)} (h : OwnRws w base v g) (hb : Below w.heap.size w w') : OwnRws w' base v g := by
  obtain ⟨vals, h1, h2, h3⟩ := h
  exact ⟨vals, h1, ownsRow_below h2 hb, fun j hj => ownsRow_below (h3 j hj) hb⟩
theorem OwnG.below {w w' : World} {base : Nat} {v : Value} {g : List (List Int)} (h : OwnG w base v g) (hb : Below w.heap.size w w') : OwnG w' base v g := by
  obtain ⟨u, h1, h2⟩ := h
  exact ⟨u, h1, h2.below hb⟩
theorem OwnRws.rws {w : World} {base : Nat} {v : Value} {g : List (List Int)} (h : OwnRws w base v g) (h1 : g.length ≤ 1000000000) (h2 : ∀ j, j < g.length → (row g j).length ≤ 1000000000) : Rws w 52 2 v g := by
  obtain ⟨vals, e1, e2, e3⟩ := h
  exact ⟨vals, e1, Sl.of_owns e2 h1, fun j hj => Nums.of_owns (e3 j hj) rfl (h2 j hj)⟩
theorem OwnG.gr {w : World} {base : Nat} {v : Value} {g : List (List Int)} (h : OwnG w base v g) (h1 : g.length ≤ 1000000000) (h2 : ∀ j, j < g.length → (row g j).length ≤ 1000000000) : Gr w v g := by
  obtain ⟨u, e1, e2⟩ := h
  exact ⟨u, e1, e2.rws h1 h2⟩

theorem OwnRws.set {w : World} {base : Nat} {v : Value} {g : List (List Int)} (h : OwnRws w base v g) {a : Addr} (ha : a.block < base) (u : Value) : OwnRws (w.setCell a u) base v g := by
  obtain ⟨vals, h1, h2, h3⟩ := h
  exact ⟨vals, h1, ownsRow_setCell_below h2 ha u, fun j hj => ownsRow_setCell_below (h3 j hj) ha u⟩
theorem OwnRws.lower {w : World} {base base' : Nat} {v : Value} {g : List (List Int)} (h : OwnRws w base v g) (hb : base' ≤ base) : OwnRws w base' v g := by
  obtain ⟨vals, h1, h2, h3⟩ := h
  exact ⟨vals, h1, ownsRow_base h2 hb, fun j hj => ownsRow_base (h3 j hj) hb⟩
theorem OwnG.lower {w : World} {base base' : Nat} {v : Value} {g : List (List Int)} (h : OwnG w base v g) (hb : base' ≤ base) : OwnG w base' v g := by
  obtain ⟨u, h1, h2⟩ := h
  exact ⟨u, h1, h2.lower hb⟩

theorem getD_set_self {α : Type} (l : List α) (k : Nat) (x d : α) (h : k < l.length) : (l.set k x).getD k d = x := by simp [h]
theorem getD_set_other {α : Type} (l : List α) (k j : Nat) (x d : α) (h : k ≠ j) : (l.set k x).getD j d = l.getD j d := by simp [h]

set_option maxRecDepth 100000 in
set_option maxHeartbeats 1000000 in
theorem toInt64SS_any (v : Value) (g : List (List Int)) (h1 : g.length ≤ 1048576) (h2 : ∀ j, j < g.length → (row g j).length ≤ 1048576) (w : World) (hx : ArgR w v g) :
    Calls Tryd.prog 62 #[v] w fun e w' => ∃ u, e = .returned u ∧ (∃ b c, u = .slice (some ⟨b, 0, none⟩) g.length c) ∧
      OwnRws w' w.heap.size u g ∧ Below w.heap.size w w' := by
  obtain ⟨p, c, vals0, rfl, hn, hr⟩ := id hx
  clear hr
  go_enter Tryd.func62, Tryd.ntmps62
  go_wp2_with (at_make; refine wpList_mk ty_rows rfl rfl rfl g.length rfl rfl rfl rfl (by omega) ?_; intro w1 hown1 hg1)
  have hb1 := grown_below hg1
  clear hg1
  go_loopw [4] (fun i wr => ∃ (k : Nat) (vals : List Value), k ≤ g.length ∧ i = .int .i64 k ∧ vals.length = g.length ∧ wr.ownsRow w.heap.size 52 1 (.slice (some ⟨w.heap.size, 0, none⟩) g.length g.length) g.length vals ∧
      (∀ j, j < k → wr.ownsRow w.heap.size 2 1 (vals.getD j undef) (row g j).length ((row g j).map (Value.int .i64))) ∧ Below w.heap.size w wr)
    (fun i _ => g.length - (intOf i).toNat)
  case atStart => exact ⟨0, _, Nat.zero_le _, rfl, by simp, hown1, fun j hj => by omega, hb1⟩
  case round =>
    clear hown1 hb1
    obtain ⟨k, vals, hk, rfl, hvl, hown, hrows, hbel⟩ := hrel
    have Hrows := Lib.hid hrows
    have Hvl := Lib.hid hvl
    clear hrows hvl
    by_cases hlt : k < g.length
    · obtain ⟨b, o, rp, rc, rfl, hcell, harg⟩ := (hx.below hbel).get hlt
      have hlk := h2 k hlt
      go_wp2_with (go_at_call 114; refine (toInt64S_any _ _ hlk _ harg).mono ?_; rintro e w2 ⟨_, rfl, ⟨b2, c2, rfl⟩, hown2, hb2⟩; have hownr := ownsRow_below hown hb2; have hf := hownr.frozenAt k; obtain ⟨old, hold⟩ : ∃ old, vals[k]? = some old := ⟨_, List.getElem?_eq_getElem (by have := Hvl.out; omega)⟩; have hc2 := hownr.cellAt k (by omega); rw [hold] at hc2)
      obtain ⟨ho3, hg3⟩ := hownr.stored k (.slice (some ⟨b2, 0, none⟩) (row g k).length c2)
      go_roundw
      case rel =>
        have hvl := Hvl.out
        refine ⟨k + 1, vals.set k (.slice (some ⟨b2, 0, none⟩) (row g k).length c2), by omega, by go_num, by simpa using hvl, ho3, fun j hj => ?_, below_grown (below_le hbel hb2 hbel.size) hownr hg3 (Nat.le_refl _) (by have := hbel.size; have := hb2.size; omega)⟩
        by_cases e : j = k
        · subst e
          rw [getD_set_self _ _ _ _ (by omega)]
          exact ownsRow_base (ownsRow_other hown2 hownr hg3 (by decide)) hbel.size
        · rw [getD_set_other _ _ _ _ _ (fun q => e q.symm)]
          exact ownsRow_other (ownsRow_below (Hrows.out j (by omega)) hb2) hownr hg3 (by decide)
      case measure => simp [intOf]; omega
    · obtain rfl : k = g.length := by omega
      go_wp2
      go_ret
      exact ⟨_, rfl, ⟨_, _, rfl⟩, ⟨vals, Hvl.out, hown, Hrows.out⟩, hbel⟩

set_option maxRecDepth 100000 in
set_option maxHeartbeats 1000000 in
theorem toGraph_any (v : Value) (g : List (List Int)) (h1 : g.length ≤ 1048576) (h2 : ∀ j, j < g.length → (row g j).length ≤ 1048576) (w : World) (hx : ArgG w v g) :
    Calls Tryd.prog 18 #[v] w fun e w' => ∃ u, e = .returned u ∧ OwnG w' w.heap.size u g ∧ Below w.heap.size w w' := by
  obtain ⟨u, rfl, hr⟩ := hx
  obtain ⟨p, c, vals, rfl, hn, _⟩ := id hr
  have hb0 : Below w.heap.size w (((w.alloc (.cells #[.slice p g.length c] 36)).alloc (.cells #[.slice none 0 0] 26)).alloc (.cells #[.slice none 0 0] 26)) :=
    ((below_alloc w _).alloc (by rw [size_alloc]; omega) _).alloc (by rw [size_alloc, size_alloc]; omega) _
  have hr1 := hr.below hb0
  have k1 := ((Box.new w (.slice p g.length c) 36).alloc (.cells #[.slice none 0 0] 26)).alloc (.cells #[.slice none 0 0] 26)
  have k2 := (Box.new (w.alloc (.cells #[.slice p g.length c] 36)) (.slice none 0 0) 26).alloc (.cells #[.slice none 0 0] 26)
  have k3 := Box.new ((w.alloc (.cells #[.slice p g.length c] 36)).alloc (.cells #[.slice none 0 0] 26)) (.slice none 0 0) 26
  rw [size_alloc] at k2
  rw [size_alloc, size_alloc] at k3
  have K2 := Lib.hid k2
  have K3 := Lib.hid k3
  clear k1 k2 k3
  go_enter Tryd.func18, Tryd.ntmps18
  go_wp2_with (go_at_call 62; refine (toInt64SS_any _ g h1 h2 _ hr1).mono ?_; rintro e w2 ⟨_, rfl, ⟨b2, c2, rfl⟩, hown2, hb2⟩; obtain ⟨k2c, k2f, _⟩ := K2.out.keep hb2; obtain ⟨k3c, k3f, _⟩ := K3.out.keep hb2)
  have hsz := hb2.size
  rw [size_alloc, size_alloc, size_alloc] at hsz
  refine bodyPost_ret (v := .agg #[.slice (some ⟨b2, 0, none⟩) g.length c2]) (by simp [results, Tryd.results18, go_sem, k2c]) rfl ⟨_, rfl, ⟨_, rfl, ?_⟩, ?_⟩
  · rw [size_alloc, size_alloc, size_alloc] at hown2
    exact ((hown2.set (by show w.heap.size + 1 + 1 < _; omega) _).set (by show w.heap.size + 1 < _; omega) _).lower (by omega)
  · refine (Below.setCell ?_ (by show w.heap.size ≤ w.heap.size + 1 + 1; omega) _).setCell (by show w.heap.size ≤ w.heap.size + 1; omega) _
    exact hb0.trans (hb2.mono hb0.size)

set_option maxRecDepth 100000 in
set_option maxHeartbeats 1000000 in
theorem eqInt64S_any (u v : Value) (xs ys : List Int) (w : World) (hx : Nums w 2 .i64 u xs) (hy : Nums w 2 .i64 v ys) :
    Calls Tryd.prog 117 #[u, v] w fun e w' => e = .returned (.bool (dec (xs = ys))) ∧ ∃ q, w' = w.drewN q := by
  obtain ⟨p, c, rfl, hp, _, hn, hat⟩ := hx
  obtain ⟨p', c', rfl, hp', _, hn', hat'⟩ := hy
  by_cases hl : xs.length = ys.length
  case neg =>
    have hl' : ((xs.length : Int) != (ys.length : Int)) = true := by simp; omega
    go_enter Tryd.func117, Tryd.ntmps117
    go_wp2
    go_ret
    exact ⟨ret_bool (false_dec fun h => hl (by rw [h])), 0, rfl⟩
  have Hl := Lib.hid hl
  have hl' : ((xs.length : Int) != (ys.length : Int)) = false := by simp; omega
  clear hl
  go_enter Tryd.func117, Tryd.ntmps117
  go_wp2
  go_loopw [5] (fun i wr => ∃ k : Nat, k ≤ xs.length ∧ i = .int .i64 k ∧ xs.take k = ys.take k ∧ ∃ q, wr = w.drewN q) (fun i _ => xs.length - (intOf i).toNat)
  case atStart => exact ⟨0, Nat.zero_le _, rfl, by simp, 0, rfl⟩
  case round =>
    obtain ⟨k, hk, rfl, heq, q, rfl⟩ := hrel
    have Heq := Lib.hid heq
    clear heq
    by_cases hlt : k < xs.length
    · have hlt' : k < ys.length := by have := Hl.out; omega
      obtain ⟨b, o, rfl, hcell⟩ := hat.num hlt
      obtain ⟨b', o', rfl, hcell'⟩ := hat'.num hlt'
      clear hat hat'
      have e0 : (0 : Int) ≤ (k : Int) := by omega
      have e1 : (k : Int) < (xs.length : Int) := by omega
      have e2 : (k : Int) < (ys.length : Int) := by omega
      by_cases he : xs[k] = ys[k]
      · have he' : (xs[k] != ys[k]) = false := by simpa using he
        have He := Lib.hid he
        clear he
        go_wp2
        go_quiet (fail)
        go_wp2
        go_roundw
        case rel => exact ⟨k + 1, by omega, by go_num, by rw [take_snoc xs k hlt, take_snoc ys k hlt', Heq.out, He.out], _, rfl⟩
        case measure => simp [intOf]; omega
      · have he' : (xs[k] != ys[k]) = true := by simpa using he
        have He := Lib.hid he
        clear he
        go_wp2
        go_quiet (fail)
        go_wp2
        go_ret
        exact ⟨ret_bool (false_dec fun h => He.out (by subst h; rfl)), _, World.drewN_drewN _ _ _⟩
    · obtain rfl : k = xs.length := by omega
      go_wp2
      go_ret
      refine ⟨ret_bool (true_dec ?_), q, rfl⟩
      have h := Heq.out
      rwa [List.take_length, Hl.out, List.take_length] at h

end Go.Proofs.YtfphapcgjlhieaaDoor
