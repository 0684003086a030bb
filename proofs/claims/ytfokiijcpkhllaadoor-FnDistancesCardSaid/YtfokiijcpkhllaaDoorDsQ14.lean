/- Walk: what the program reaches. -/
import Derived.Test.YtfokiijcpkhllaaDoorDsQ10
import Derived.Test.YtfokiijcpkhllaaDoorDsQ13
import Derived.Test.YtfokiijcpkhllaaDoorDsQ3
import Derived.Test.YtfokiijcpkhllaaDoorDsQ4
import Derived.Deep.RegionWith
namespace Go.Proofs.YtfokiijcpkhllaaDoor
open Go.RowKit

theorem filter_lt {α : Type} (p q : α → Bool) : ∀ (l : List α), (∀ x ∈ l, p x = true → q x = true) → (∃ x ∈ l, q x = true ∧ ¬ p x = true) → (l.filter p).length < (l.filter q).length
  | [], _, ⟨x, hx, _⟩ => by simp at hx
  | a :: l, h, ⟨x, hx, hq, hp⟩ => by
    have hle : ∀ m : List α, (∀ x ∈ m, p x = true → q x = true) → (m.filter p).length ≤ (m.filter q).length := by
      intro m
      induction m with
      | nil => intro _; simp
      | cons b m ih =>
        intro hm
        have := ih fun x hx => hm x (by simp [hx])
        by_cases hb : p b = true
        · rw [List.filter_cons_of_pos hb, List.filter_cons_of_pos (hm b (by simp) hb)]; simp; exact this
        · rw [List.filter_cons_of_neg hb]
          by_cases hb2 : q b = true
          · rw [List.filter_cons_of_pos hb2]; simp; omega
          · rw [List.filter_cons_of_neg hb2]; exact this
    by_cases ha : p a = true
    · have hqa := h a (by simp) ha
      rw [List.filter_cons_of_pos ha, List.filter_cons_of_pos hqa]
      have hxl : x ∈ l := by
        rcases List.mem_cons.1 hx with e | e
        · subst e; exact absurd ha hp
        · exact e
      have := filter_lt p q l (fun x hx => h x (by simp [hx])) ⟨x, hxl, hq, hp⟩
      simp; exact this
    · rw [List.filter_cons_of_neg ha]
      have h1 := hle l fun x hx => h x (by simp [hx])
      by_cases hqa : q a = true
      · rw [List.filter_cons_of_pos hqa]; simp; omega
      · rw [List.filter_cons_of_neg hqa]
        have hxl : x ∈ l := by
          rcases List.mem_cons.1 hx with e | e
          · subst e; exact absurd hq hqa
          · exact e
        exact filter_lt p q l (fun x hx => h x (by simp [hx])) ⟨x, hxl, hq, hp⟩
theorem bits_len_lt {m k : Nat} (hm : m < 65536) (hk : k < 65536) (h : ∀ i, m.testBit i = true → k.testBit i = true) (hne : m ≠ k) : (bitsOf m).length < (bitsOf k).length := by
  unfold bitsOf
  have hx : ∃ i, k.testBit i = true ∧ ¬ m.testBit i = true := Classical.byContradiction fun hn => hne (Nat.eq_of_testBit_eq fun i => by
    rw [Bool.eq_iff_iff]
    exact ⟨h i, fun hi => Classical.byContradiction fun hmi => hn ⟨i, hi, hmi⟩⟩)
  obtain ⟨i, hi, hmi⟩ := hx
  have hi16 : i < 16 := bitsOf_lt16 hk ((mem_left hk).2 hi)
  exact filter_lt _ _ _ (fun x _ => h x) ⟨i, by simp; omega, hi, hmi⟩

/-- What the walks need of the sets: the masks of the graph of n vertices with the edges E. -/
structure NE (w : World) (x : Value) (n : Nat) (E : Nat → Nat → Bool) : Prop where
  le : n ≤ 16
  sl : Sl w 64 x n ((indN n E).map u32v)
theorem NE.next {w w' : World} {x : Value} {n : Nat} {E : Nat → Nat → Bool} (h : NE w x n E) (hb : Below w.heap.size w w') : NE w' x n E := ⟨h.le, h.sl.below hb⟩
theorem NE.get {w : World} {p : Option Addr} {m c n : Nat} {E : Nat → Nat → Bool} (h : NE w (.slice p m c) n E) {v : Nat} (hv : v < n) :
    ∃ (b o a : Nat), p = some ⟨b, o, none⟩ ∧ w.cell? ⟨b, o + v, none⟩ = some (.int .u32 (a : Int)) ∧ a < 65536 ∧ ∀ j, a.testBit j = (decide (j < n) && E v j) := by
  have hvl : v < (indN n E).length := by rw [indN_length]; exact hv
  obtain ⟨b, o, h1, h2⟩ := nets_cell (a := indN n E) (by rw [indN_length]; exact h.sl) hvl
  have h3 := indN_bit (E := E) hv
  have e : (indN n E).getD v 0 = (indN n E)[v] := by simp [hvl]
  rw [e] at h3
  exact ⟨b, o, _, h1, h2, indN_lt16 h.le _ (List.getElem_mem hvl), h3⟩

set_option maxRecDepth 100000 in
set_option maxHeartbeats 4000000 in
theorem reach_any (x : Value) (y z : Int) (n : Nat) (E : Nat → Nat → Bool) (v W : Nat) (hy : y = v) (hz : z = W) (hW : W < 65536) (hWn : ∀ i, W.testBit i = true → i < n) (hv : W.testBit v = true) (w : World) (hx : NE w x n E) (hT : Tab w) :
    Calls Tryd.prog 113 #[x, .int .i64 y, .int .u32 z] w fun e w' => ∃ m : Nat, e = .returned (.int .u32 (m : Int)) ∧ m < 65536 ∧ (∀ i, m.testBit i = true ↔ i ∈ partL E (bitsOf W) v) ∧ Below w.heap.size w w' := by
  subst hy; subst hz
  obtain ⟨xp, xc, rfl⟩ : ∃ p c, x = .slice p n c := by obtain ⟨p, c, e, _⟩ := hx.sl; exact ⟨p, c, e⟩
  have hvn := hWn v hv
  have hle := hx.le
  have hv32 : v < 32 := by omega
  have HX := Lib.hid hx
  have HT := Lib.hid hT
  have HWN := Lib.hid hWn
  have HV := Lib.hid hv
  have h2v : 2 ^ v < 65536 := pow_lt16 v (by omega)
  have hb2 : Hid (∀ i, (2 ^ v : Nat).testBit i = true ↔ v = i) := Lib.hid fun i => by rw [testBit_pow]; simp
  have c1 := Lib.hid (fun w => one_any (v : Int) v rfl hv32 w)
  clear hx hT hWn hv
  generalize hpv : 2 ^ v = pv at h2v hb2 c1
  clear hpv
  go_enter Tryd.func113, Tryd.ntmps113
  go_wp2_with (go_at_call 74; refine (c1.out _).mono ?_; rintro e w2 ⟨rfl, rfl⟩)
  go_loopw [7] (fun s7 wr => ∃ m : Nat, s7 = .int .u32 (m : Int) ∧ m < 65536 ∧ m.testBit v = true ∧ (∀ i, m.testBit i = true → W.testBit i = true ∧ Rch E (· ∈ bitsOf W) v i) ∧ Below w.heap.size w wr)
    (fun s7 _ => 32 - (bitsOf (intOf s7).toNat).length)
  case atStart =>
    refine ⟨pv, rfl, h2v, (hb2.out v).2 rfl, fun i hi => ?_, Below.refl _ _⟩
    obtain rfl := (hb2.out i).1 hi
    exact ⟨HV.out, .base⟩
  case round =>
    clear h2v hb2
    obtain ⟨m, rfl, hm, hmv, hmr, hbel⟩ := hrel
    have HMV := Lib.hid hmv
    have HMR := Lib.hid hmr
    have HBel := Lib.hid hbel
    have hlen := bitsOf_length m
    have hT1 := HT.out.keep hbel
    clear hmv hmr hbel
    go_wp2_with (go_at_call 48; refine (list_any _ m rfl (by omega) _ hT1).mono ?_; rintro e w3 ⟨lv, rfl, hown3, hb3⟩; have hnl := Nums.of_owns hown3 (natInts_length _).symm (by omega); obtain ⟨lp, lc, rfl, _, _, _, hat⟩ := hnl.shape; rw [natInts_length])
    have HB3 := Lib.hid (HBel.out.trans (hb3.mono HBel.out.size))
    have HAT := Lib.hid hat
    clear hb3 hown3 hnl hat hT1
    go_loopw [8, 17] (fun s8 i wx => ∃ (t nx : Nat), t ≤ (bitsOf m).length ∧ i = .int .i64 t ∧ s8 = .int .u32 (nx : Int) ∧ nx < 65536 ∧ (∀ i, m.testBit i = true → nx.testBit i = true) ∧ (∀ i, nx.testBit i = true → W.testBit i = true ∧ Rch E (· ∈ bitsOf W) v i) ∧
        (∀ s (hs : s < (bitsOf m).length), s < t → ∀ y, E (bitsOf m)[s] y = true → W.testBit y = true → nx.testBit y = true) ∧ Below w3.heap.size w3 wx) (fun _ i _ => (bitsOf m).length - (intOf i).toNat)
    case atStart => exact ⟨0, m, Nat.zero_le _, rfl, rfl, hm, fun _ h => h, HMR.out, fun s hs h => by omega, Below.refl _ _⟩
    case round =>
      obtain ⟨t, nx, ht, rfl, rfl, hnx, hsub, hrch, hdone, hbx⟩ := hrel
      have HSUB := Lib.hid hsub
      have HRCH := Lib.hid hrch
      have HDONE := Lib.hid hdone
      have HBx := Lib.hid hbx
      clear hsub hrch hdone hbx
      by_cases hlt : t < (bitsOf m).length
      · obtain ⟨u, hu⟩ : ∃ u : Nat, u = (bitsOf m)[t] := ⟨_, rfl⟩
        have hub : m.testBit u = true := (mem_left hm).1 (hu ▸ List.getElem_mem hlt)
        have huW := HMR.out u hub
        have hun := HWN.out u huW.1
        have hjl : t < (natInts (bitsOf m)).length := by rw [natInts_length]; exact hlt
        obtain ⟨lb, lo, rfl, hcl⟩ := (HAT.out.below HBx.out).num hjl
        have hval : (natInts (bitsOf m))[t] = (u : Int) := by rw [hu]; simp [natInts]
        rw [hval] at hcl
        obtain ⟨ab, ao, av, rfl, hca, ha16, hbit⟩ := (HX.out.next (HB3.out.trans (HBx.out.mono HB3.out.size))).get hun
        have hand := u32_and_nat av W (by omega) (by omega)
        have hq16 : av &&& W < 65536 := and_lt16 _ _ ha16
        have hor := or_u32 nx (av &&& W) hnx hq16
        have hn216 := or_lt16 nx (av &&& W) hnx hq16
        have HQ : Hid (∀ j, (nx ||| (av &&& W)).testBit j = true ↔ nx.testBit j = true ∨ ((j < n ∧ E u j = true) ∧ W.testBit j = true)) := Lib.hid fun j => by
          rw [Nat.testBit_or, Nat.testBit_and, hbit]
          simp only [Bool.or_eq_true, Bool.and_eq_true, decide_eq_true_eq]
        have HU := Lib.hid hu
        have HUW := Lib.hid huW
        have e0 : (0 : Int) ≤ (u : Int) := by omega
        have e1 : (u : Int) < (n : Int) := by omega
        clear hval hu hub huW hbit ha16
        generalize hn2 : nx ||| (av &&& W) = n2 at hor hn216 HQ
        generalize av &&& W = q at hand hor hq16
        clear hn2
        go_wp2
        go_roundw
        case rel =>
          refine ⟨t + 1, n2, by omega, by go_num, rfl, hn216, fun i hi => (HQ.out i).2 (.inl (HSUB.out i hi)), fun i hi => ?_, fun s hs h y hE hy => ?_, HBx.out⟩
          · rcases (HQ.out i).1 hi with h | ⟨⟨_, hE⟩, hWi⟩
            · exact HRCH.out i h
            · exact ⟨hWi, .step HUW.out.2 hE ((mem_left hW).2 hWi)⟩
          · by_cases e : s = t
            · subst e
              rw [← HU.out] at hE
              exact (HQ.out y).2 (.inr ⟨⟨HWN.out y hy, hE⟩, hy⟩)
            · exact (HQ.out y).2 (.inl (HDONE.out s hs (by omega) y hE hy))
        case measure => simp [intOf]; omega
      · obtain rfl : t = (bitsOf m).length := by omega
        by_cases he : nx = m
        · have he' : (((nx : Nat) : Int) == ((m : Nat) : Int)) = true := by simp [he]
          have HE := Lib.hid he
          clear he
          go_wp2
          go_ret
          refine ⟨m, rfl, hm, fun i => ?_, HB3.out.trans (HBx.out.mono HB3.out.size)⟩
          rw [mem_partL]
          constructor
          · intro hi
            exact ⟨(mem_left hW).2 (HMR.out i hi).1, (HMR.out i hi).2⟩
          · rintro ⟨_, hr⟩
            refine rch_closed (T := fun i => m.testBit i = true) HMV.out (fun a b ha hE hb => ?_) i hr
            obtain ⟨s, hs, e⟩ := List.getElem_of_mem ((mem_left hm).2 ha)
            have := HDONE.out s hs hs b (by rw [e]; exact hE) ((mem_left hW).1 hb)
            rwa [HE.out] at this
        · have he' : (((nx : Nat) : Int) == ((m : Nat) : Int)) = false := by simpa using fun e => he (by omega)
          have HE := Lib.hid he
          clear he
          go_wp2
          go_roundw
          case rel => exact ⟨nx, rfl, hnx, HSUB.out v HMV.out, HRCH.out, HB3.out.trans (HBx.out.mono HB3.out.size)⟩
          case measure =>
            have h1 := bits_len_lt hm hnx HSUB.out (fun e => HE.out e.symm)
            have h2 := bitsOf_length nx
            simp [intOf]
            omega

end Go.Proofs.YtfokiijcpkhllaaDoor

/- Walks: what the exact laws do with their arguments and results: size, copy, compare, mark, hold. -/
namespace Go.Proofs.YtfokiijcpkhllaaDoor
open Go.RowKit

/-- From p on lie the cells vals, whatever the block says of its elements: what an argument reads as. -/
def Cl (w : World) (p : Option Addr) (vals : List Value) : Prop :=
  vals = [] ∨ ∃ b o, p = some ⟨b, o, none⟩ ∧ ∀ j u, vals[j]? = some u → w.cell? ⟨b, o + j, none⟩ = some u
def ArgN (w : World) (v : Value) (xs : List Int) : Prop := ∃ p c, v = .slice p xs.length c ∧ xs.length ≤ 9223372036854775807 ∧ Cl w p (xs.map (Value.int .i64))
def ArgR (w : World) (v : Value) (g : List (List Int)) : Prop :=
  ∃ p c vals, v = .slice p g.length c ∧ g.length ≤ 9223372036854775807 ∧ vals.length = g.length ∧ Cl w p vals ∧ ∀ j, j < g.length → ArgN w (vals.getD j undef) (g.getD j [])
/-- A law's graph. -/
def ArgG (w : World) (v : Value) (g : List (List Int)) : Prop := ∃ u, v = .agg #[u] ∧ ArgR w u g

theorem Cl.below {w w' : World} {p : Option Addr} {vals : List Value} (h : Cl w p vals) (hb : Below w.heap.size w w') : Cl w' p vals := by
  rcases h with h | ⟨b, o, h1, h2⟩
  · exact .inl h
  · exact .inr ⟨b, o, h1, fun j u hu => hb.at' (h2 j u hu)⟩
theorem ArgN.below {w w' : World} {v : Value} {xs : List Int} (h : ArgN w v xs) (hb : Below w.heap.size w w') : ArgN w' v xs := by
  obtain ⟨p, c, h1, h2, h3⟩ := h
  exact ⟨p, c, h1, h2, h3.below hb⟩
theorem ArgR.below {w w' : World} {v : Value} {g : List (List Int)} (h : ArgR w v g) (hb : Below w.heap.size w w') : ArgR w' v g := by
  obtain ⟨p, c, vals, h1, h2, h3, h4, h5⟩ := h
  exact ⟨p, c, vals, h1, h2, h3, h4.below hb, fun j hj => (h5 j hj).below hb⟩
theorem ArgG.below {w w' : World} {v : Value} {g : List (List Int)} (h : ArgG w v g) (hb : Below w.heap.size w w') : ArgG w' v g := by
  obtain ⟨u, h1, h2⟩ := h
  exact ⟨u, h1, h2.below hb⟩
theorem Cl.get {w : World} {p : Option Addr} {vals : List Value} (h : Cl w p vals) {k : Nat} (hk : k < vals.length) : ∃ b o, p = some ⟨b, o, none⟩ ∧ w.cell? ⟨b, o + k, none⟩ = some vals[k] := by
  rcases h with h | ⟨b, o, h1, h2⟩
  · subst h; simp at hk
  · exact ⟨b, o, h1, h2 k _ (by simp [hk])⟩
theorem Cl.num {w : World} {p : Option Addr} {xs : List Int} (h : Cl w p (xs.map (Value.int .i64))) {k : Nat} (hk : k < xs.length) : ∃ b o, p = some ⟨b, o, none⟩ ∧ w.cell? ⟨b, o + k, none⟩ = some (.int .i64 xs[k]) := by
  obtain ⟨b, o, h1, h2⟩ := h.get (k := k) (by simpa using hk)
  exact ⟨b, o, h1, by rw [h2]; simp⟩
theorem ArgR.get {w : World} {p : Option Addr} {n c : Nat} {g : List (List Int)} (h : ArgR w (.slice p n c) g) {k : Nat} (hk : k < g.length) :
    ∃ b o rp rc, p = some ⟨b, o, none⟩ ∧ w.cell? ⟨b, o + k, none⟩ = some (.slice rp (row g k).length rc) ∧ ArgN w (.slice rp (row g k).length rc) (row g k) := by
  obtain ⟨p', c', vals, he, _, hl, hcl, hr⟩ := h
  simp only [Value.slice.injEq] at he
  obtain ⟨rfl, rfl, rfl⟩ := he
  obtain ⟨b, o, hp, hc⟩ := hcl.get (k := k) (by omega)
  have hrow := hr k hk
  have e : vals.getD k undef = vals[k] := by simp [hl, hk]
  rw [e] at hrow
  obtain ⟨rp, rc, hv, _⟩ := id hrow
  rw [hv] at hc hrow
  exact ⟨b, o, rp, rc, hp, hc, hrow⟩

theorem take_replicate_set {α : Type} (xs ys : List α) (k : Nat) (z : α) (hy : ys = xs.take k ++ List.replicate (xs.length - k) z) (hk : k < xs.length) :
    ys.set k xs[k] = xs.take (k + 1) ++ List.replicate (xs.length - (k + 1)) z := by
  subst hy
  have hl : (xs.take k).length = k := by rw [List.length_take]; omega
  have e : xs.length - k = (xs.length - (k + 1)) + 1 := by omega
  rw [List.set_append, if_neg (by omega), hl, Nat.sub_self, e, List.replicate_succ, List.set_cons_zero, take_snoc xs k hk, List.append_assoc]
  rfl

end Go.Proofs.YtfokiijcpkhllaaDoor

/- Walks: what the exact laws do with their arguments and results, second part. -/
namespace Go.Proofs.YtfokiijcpkhllaaDoor
open Go.RowKit

/-- A slice of rows, each of its own, all in blocks from base on. -/
def OwnRws (w : World) (base : Nat) (v : Value) (g : List (List Int)) : Prop :=
  ∃ vals, vals.length = g.length ∧ w.ownsRow base 32 1 v g.length vals ∧ ∀ j, j < g.length → w.ownsRow base 2 1 (vals.getD j undef) (row g j).length ((row g j).map (Value.int .i64))
def OwnG (w : World) (base : Nat) (v : Value) (g : List (List Int)) : Prop := ∃ u, v = .agg #[u] ∧ OwnRws w base u g

theorem OwnRws.below {w w' : World} {base : Nat} {v : Value} {g : List (List Int)} (h : OwnRws w base v g) (hb : Below w.heap.size w w') : OwnRws w' base v g := by
  obtain ⟨vals, h1, h2, h3⟩ := h
  exact ⟨vals, h1, ownsRow_below h2 hb, fun j hj => ownsRow_below (h3 j hj) hb⟩
theorem OwnG.below {w w' : World} {base : Nat} {v : Value} {g : List (List Int)} (h : OwnG w base v g) (hb : Below w.heap.size w w') : OwnG w' base v g := by
  obtain ⟨u, h1, h2⟩ := h
  exact ⟨u, h1, h2.below hb⟩
theorem OwnRws.rws {w : World} {base : Nat} {v : Value} {g : List (List Int)} (h : OwnRws w base v g) (h1 : g.length ≤ 1000000000) (h2 : ∀ j, j < g.length → (row g j).length ≤ 1000000000) : Rws w 32 2 v g := by
  obtain ⟨vals, e1, e2, e3⟩ := h
  exact ⟨vals, e1, Sl.of_owns e2 h1, fun j hj => Nums.of_owns (e3 j hj) rfl (h2 j hj)⟩
theorem OwnG.gr {w : World} {base : Nat} {v : Value} {g : List (List Int)} (h : OwnG w base v g) (h1 : g.length ≤ 1000000000) (h2 : ∀ j, j < g.length → (row g j).length ≤ 1000000000) : Gr w v g := by
  obtain ⟨u, e1, e2⟩ := h
  exact ⟨u, e1, e2.rws h1 h2⟩

theorem OwnRws.set {w : World} {base : Nat} {v : Value} {g : List (List Int)} (h : OwnRws w base v g) {a : Addr} (ha : a.block < base) (u : Value) : OwnRws (w.setCell a u) base v g := by
  obtain ⟨vals, h1, h2, h3⟩ := h
  exact ⟨vals, h1, ownsRow_setCell_below h2 ha u, fun j hj => ownsRow_setCell_below (h3 j hj) ha u⟩
theorem OwnRws.lower {w : World} {base base' : Nat} {v : Value} {g : List (List Int)} (h : OwnRws w base v g) (hb : base' ≤ base) : OwnRws w base' v g := by
  obtain ⟨vals, h1, h2, h3⟩ := h
  exact ⟨vals, h1, ownsRow_base h2 hb, fun j hj => ownsRow_base (h3 j hj) hb⟩
theorem OwnG.lower {w : World} {base base' : Nat} {v : Value} {g : List (List Int)} (h : OwnG w base v g) (hb : base' ≤ base) : OwnG w base' v g := by
  obtain ⟨u, h1, h2⟩ := h
  exact ⟨u, h1, h2.lower hb⟩

theorem getD_set_self {α : Type} (l : List α) (k : Nat) (x d : α) (h : k < l.length) : (l.set k x).getD k d = x := by simp [h]
theorem getD_set_other {α : Type} (l : List α) (k j : Nat) (x d : α) (h : k ≠ j) : (l.set k x).getD j d = l.getD j d := by simp [h]

end Go.Proofs.YtfokiijcpkhllaaDoor

/- Walks: what the exact laws do with their arguments and results, third part. -/
namespace Go.Proofs.YtfokiijcpkhllaaDoor
open Go.RowKit

/-- The marks k, k + 1, .. -/
def marks (k : Int) (n : Nat) : List Int := (List.range n).map fun (i : Nat) => k + (i : Int)
theorem marks_length (k : Int) (n : Nat) : (marks k n).length = n := by simp [marks]
theorem marks_succ (k : Int) (n : Nat) : marks k (n + 1) = marks k n ++ [k + n] := by simp [marks, List.range_succ]

theorem set_marks (ys : List Value) (n k : Nat) (m : Int) (hy : ys.length = n) (hk : k < n) :
    (((marks m k).map (Value.int .i64)) ++ ys.drop k).set k (.int .i64 (m + k)) = ((marks m (k + 1)).map (Value.int .i64)) ++ ys.drop (k + 1) := by
  have hl : ((marks m k).map (Value.int .i64)).length = k := by simp [marks_length]
  rw [List.set_append, if_neg (by omega), hl, Nat.sub_self, marks_succ, List.map_append, List.append_assoc]
  congr 1
  rw [List.drop_eq_getElem_cons (by omega)]
  rfl

end Go.Proofs.YtfokiijcpkhllaaDoor

/- Walks: marking a graph; what stays apart from it. -/
namespace Go.Proofs.YtfokiijcpkhllaaDoor
open Go.RowKit

/-- Only blocks from lo on and below hi have turned. -/
structure Apart (lo hi : Nat) (w w' : World) : Prop where
  os : w'.os = w.os
  tape : w'.tape = w.tape
  output : w'.output = w.output
  size : w.heap.size ≤ w'.heap.size
  block : ∀ b, b < w.heap.size → (b < lo ∨ hi ≤ b) → w'.heap[b]? = w.heap[b]?

theorem Apart.refl (lo hi : Nat) (w : World) : Apart lo hi w w := ⟨rfl, rfl, rfl, Nat.le_refl _, fun _ _ _ => rfl⟩
theorem Apart.trans {lo hi : Nat} {a b c : World} (h : Apart lo hi a b) (k : Apart lo hi b c) : Apart lo hi a c :=
  ⟨k.os.trans h.os, k.tape.trans h.tape, k.output.trans h.output, Nat.le_trans h.size k.size, fun i hi hn => (k.block i (Nat.lt_of_lt_of_le hi h.size) hn).trans (h.block i hi hn)⟩
theorem Apart.of_below {lo hi : Nat} {w w' : World} (h : Below w.heap.size w w') : Apart lo hi w w' := ⟨h.os, h.tape, h.output, h.size, fun b hb _ => h.block b hb⟩
theorem Apart.below {lo hi : Nat} {w w' : World} (h : Apart lo hi w w') (hl : lo ≤ w.heap.size) : Below lo w w' := ⟨h.os, h.tape, h.output, h.size, fun b hb => h.block b (by omega) (.inl hb)⟩
theorem Apart.of_grown {lo hi : Nat} {w w' : World} {base : Nat} {E : TypeId} {size n : Nat} {v : Value} {xs : List Value} (ho : w.ownsRow base E size v n xs) (hg : w.grownBy w' v.ownBlock) (h1 : lo ≤ base) (h2 : ∀ k, v.ownBlock = some k → k < hi) : Apart lo hi w w' :=
  ⟨hg.os, hg.tape, hg.output, hg.size, fun b hb hx => hg.block b hb fun e => by
    have h3 := (ho.lt b e.symm).1
    have h4 := h2 b e.symm
    omega⟩

theorem ownsRow_apart_lo {lo hi : Nat} {w w' : World} {base : Nat} {E : TypeId} {size n : Nat} {v : Value} {xs : List Value} (h : w.ownsRow base E size v n xs) (ha : Apart lo hi w w') (hl : ∀ k, v.ownBlock = some k → k < lo) : w'.ownsRow base E size v n xs := by
  refine ⟨h.1, ?_⟩
  rcases h.2 with h2 | ⟨g, cap, cur, h1, h2, h3, h4⟩
  · exact .inl h2
  · exact .inr ⟨g, cap, cur, h1, h2, (ha.block g (Array.getElem?_eq_some_iff.1 h3).1 (.inl (hl g (by rw [h1]; rfl)))).trans h3, h4⟩
theorem ownsRow_apart_hi {lo hi : Nat} {w w' : World} {base : Nat} {E : TypeId} {size n : Nat} {v : Value} {xs : List Value} (h : w.ownsRow base E size v n xs) (ha : Apart lo hi w w') (hl : hi ≤ base) : w'.ownsRow base E size v n xs := by
  refine ⟨h.1, ?_⟩
  rcases h.2 with h2 | ⟨g, cap, cur, h1, h2, h3, h4⟩
  · exact .inl h2
  · exact .inr ⟨g, cap, cur, h1, h2, (ha.block g (Array.getElem?_eq_some_iff.1 h3).1 (.inr (by omega))).trans h3, h4⟩

/-- A row, whatever it holds, behind a write to a row of the same kind. -/
theorem ownsRow_some {w w' : World} {base : Nat} {E : TypeId} {n m : Nat} {v u : Value} {ys zs zs' : List Value} (h : w.ownsRow base E 1 v n ys)
    (ho : w.ownsRow base E 1 u m zs) (ho' : w'.ownsRow base E 1 u m zs') (hg : w.grownBy w' u.ownBlock) : ∃ ys', w'.ownsRow base E 1 v n ys' := by
  rcases h.2 with ⟨rfl, rfl⟩ | ⟨g, cap, cur, rfl, hb, hgg, hnc, hcm, hcs, ht⟩
  · exact ⟨[], World.ownsRow_nil _ _ _ _⟩
  · by_cases e : u.ownBlock = some g
    · rcases ho.2 with ⟨rfl, rfl⟩ | ⟨g1, cap1, cur1, rfl, _, hg1, _, _, hcs1, _⟩
      · simp [Value.ownBlock] at e
      · simp [Value.ownBlock] at e
        subst e
        rcases ho'.2 with ⟨h', _⟩ | ⟨g2, cap2, cur2, h2, hb2, hg2, _, _, hcs2, _⟩
        · simp at h'
        · simp only [Value.slice.injEq, Option.some.injEq, Addr.mk.injEq, and_true, true_and] at h2
          obtain ⟨rfl, rfl⟩ := h2
          rw [hgg] at hg1
          simp only [Option.some.injEq, Obj.cells.injEq] at hg1
          have hcc : cur2.size = cap * 1 := by rw [hcs2, ← hcs1, ← hg1.1, hcs]
          refine ⟨cur2.toList.take (n * 1), by rw [List.length_take, Array.length_toList]; omega, .inr ⟨g1, cap, cur2, rfl, hb, hg2, hnc, hcm, hcc, rfl⟩⟩
    · exact ⟨ys, h.kept hg (.inr (by simp only [Value.ownBlock]; exact fun q => e q.symm))⟩

/-- A graph in blocks from lo on and below hi. -/
def InG (w : World) (lo hi : Nat) (v : Value) (g : List (List Int)) : Prop :=
  ∃ u vals, v = .agg #[u] ∧ vals.length = g.length ∧ w.ownsRow lo 32 1 u g.length vals ∧ (∀ b, u.ownBlock = some b → b < hi) ∧
    ∀ j, j < g.length → w.ownsRow lo 2 1 (vals.getD j undef) (row g j).length ((row g j).map (Value.int .i64)) ∧ ∀ b, (vals.getD j undef).ownBlock = some b → b < hi

theorem InG.of_own {w : World} {lo : Nat} {v : Value} {g : List (List Int)} (h : OwnG w lo v g) : InG w lo w.heap.size v g := by
  obtain ⟨u, rfl, vals, h1, h2, h3⟩ := h
  exact ⟨u, vals, rfl, h1, h2, fun b hb => (h2.lt b hb).2, fun j hj => ⟨h3 j hj, fun b hb => ((h3 j hj).lt b hb).2⟩⟩
theorem InG.below {w w' : World} {lo hi : Nat} {v : Value} {g : List (List Int)} (h : InG w lo hi v g) (hb : Below w.heap.size w w') : InG w' lo hi v g := by
  obtain ⟨u, vals, h0, h1, h2, h3, h4⟩ := h
  exact ⟨u, vals, h0, h1, ownsRow_below h2 hb, h3, fun j hj => ⟨ownsRow_below (h4 j hj).1 hb, (h4 j hj).2⟩⟩
theorem InG.own {w : World} {lo hi : Nat} {v : Value} {g : List (List Int)} (h : InG w lo hi v g) : OwnG w lo v g := by
  obtain ⟨u, vals, h0, h1, h2, h3, h4⟩ := h
  exact ⟨u, h0, vals, h1, h2, fun j hj => (h4 j hj).1⟩

end Go.Proofs.YtfokiijcpkhllaaDoor
