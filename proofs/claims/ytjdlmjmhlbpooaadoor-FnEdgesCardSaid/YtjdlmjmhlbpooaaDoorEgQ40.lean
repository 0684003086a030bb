/- Plain: the edges counted are half the degrees. -/
import Derived.Test.YtjdlmjmhlbpooaaDoorEgQ39
import Derived.Test.YtjdlmjmhlbpooaaDoorEgQ29
import Derived.Test.YtjdlmjmhlbpooaaDoorEgQ10
import Derived.Test.YtjdlmjmhlbpooaaDoorEgQ16
import Derived.Test.YtjdlmjmhlbpooaaDoorEgQ5
import Derived.Test.YtjdlmjmhlbpooaaDoorEgQ7
namespace Go.Proofs.YtjdlmjmhlbpooaaDoor

theorem cntE_edN {g : List (List Int)} (hg : GOk g) : ∀ k, k ≤ g.length → cntE g k = (edN g.length (ofG g) k).length
  | 0, _ => rfl
  | k + 1, hk => by
    have ih := cntE_edN hg k (by omega)
    have h1 := edT_end hg (show k < g.length by omega)
    have h2 : (edT g k (row g k).length).length = upL k (row g k) := by simp [edT, upL]
    rw [cntE, ih, edN_succ, List.length_append, ← h1, h2]
/-- The degrees within the first m. -/
def sumS (E : Nat → Nat → Bool) (m : Nat) : Nat := ((List.range m).map fun u => (List.range m).countP (E u)).sum
def sumP (E : Nat → Nat → Bool) (m : Nat) : Nat := ((List.range m).map fun u => (List.range m).countP fun v => decide (u < v) && E u v).sum
theorem sum_two {E : Nat → Nat → Bool} (hs : ∀ r j, E r j = true → E j r = true) (hi : ∀ r, E r r = false) : ∀ m, sumS E m = 2 * sumP E m
  | 0 => rfl
  | m + 1 => by
    have ih := sum_two hs hi m
    have e1 : sumS E (m + 1) = sumS E m + 2 * (List.range m).countP (E m) := by
      unfold sumS
      rw [List.range_succ, List.map_append, List.sum_append, List.map_singleton, List.sum_singleton]
      have a : ((List.range m).map fun u => (List.range m ++ [m]).countP (E u)) = (List.range m).map fun u => (List.range m).countP (E u) + (if E u m = true then 1 else 0) := List.map_congr_left fun u _ => by
        rw [List.countP_append, List.countP_singleton]
      have b := sum_add2 (fun u => (List.range m).countP (E u)) (fun u => if E u m = true then 1 else 0) (List.range m)
      have c := sum_ite (fun u => E u m) (List.range m)
      have d : (List.range m).countP (fun u => E u m) = (List.range m).countP (E m) := List.countP_congr fun v _ => ⟨fun h => hs _ _ h, fun h => hs _ _ h⟩
      rw [a, b, c, d, List.countP_append, List.countP_singleton, hi m]
      simp only [Bool.false_eq_true, if_false]
      omega
    have e2 : sumP E (m + 1) = sumP E m + (List.range m).countP (E m) := by
      unfold sumP
      rw [List.range_succ, List.map_append, List.sum_append, List.map_singleton, List.sum_singleton]
      have a : ((List.range m).map fun u => (List.range m ++ [m]).countP fun v => decide (u < v) && E u v) = (List.range m).map fun u => ((List.range m).countP fun v => decide (u < v) && E u v) + (if E u m = true then 1 else 0) := List.map_congr_left fun u hu => by
        have hum : u < m := List.mem_range.1 hu
        rw [List.countP_append, List.countP_singleton]
        simp [hum]
      have b := sum_add2 (fun u => (List.range m).countP fun v => decide (u < v) && E u v) (fun u => if E u m = true then 1 else 0) (List.range m)
      have c := sum_ite (fun u => E u m) (List.range m)
      have d : (List.range m).countP (fun u => E u m) = (List.range m).countP (E m) := List.countP_congr fun v _ => ⟨fun h => hs _ _ h, fun h => hs _ _ h⟩
      have f : (List.range m ++ [m]).countP (fun v => decide (m < v) && E m v) = 0 := List.countP_eq_zero.2 fun v hv => by
        rcases List.mem_append.1 hv with h | h
        · have := List.mem_range.1 h
          simp [show ¬ m < v by omega]
        · have : v = m := by simpa using h
          simp [this]
      rw [a, b, c, d, f]
      omega
    omega
theorem edN_sum (n : Nat) (E : Nat → Nat → Bool) : ∀ k, (edN n E k).length = ((List.range k).map fun u => (List.range n).countP fun v => decide (u < v) && E u v).sum
  | 0 => rfl
  | k + 1 => by
    rw [edN_succ, List.length_append, edN_sum n E k, List.range_succ, List.map_append, List.sum_append, List.map_singleton, List.sum_singleton]
    unfold edRow
    rw [List.length_map, ← List.countP_eq_length_filter]
/-- Twice the edges are the degrees. -/
theorem two_cntE {g : List (List Int)} (hg : GOk g) : totN g.length (ofG g) = 2 * cntE g g.length := by
  rw [cntE_edN hg g.length (Nat.le_refl _), edN_sum]
  exact sum_two (ofG_sym hg) (ofG_irr hg) g.length

end Go.Proofs.YtjdlmjmhlbpooaaDoor

/- Plain: a graph is made of its edges again; a sum does not depend on the order. -/
namespace Go.Proofs.YtjdlmjmhlbpooaaDoor

/-- The edges that a list of pairs has. -/
def memE (l : List (Nat × Nat)) : Nat → Nat → Bool := fun r j => decide ((r, j) ∈ l ∨ (j, r) ∈ l)
theorem memE_nil (n : Nat) : indN n (memE []) = List.replicate n 0 := indN_none n fun r j _ _ => by simp [memE]
theorem memE_snoc {n a b : Nat} {l : List (Nat × Nat)} (ha : a < n) (hb : b < n) (hab : a ≠ b) : joinL (indN n (memE l)) a b = indN n (memE (l ++ [(a, b)])) := by
  refine natList_ext (by rw [joinL_length, indN_length, indN_length]) fun r hr => ?_
  rw [joinL_length, indN_length] at hr
  refine Nat.eq_of_testBit_eq fun j => ?_
  rw [Bool.eq_iff_iff, joinL_testBit (by rw [indN_length]; exact ha) (by rw [indN_length]; exact hb) hab, indN_bit hr, indN_bit hr]
  simp only [memE, Bool.and_eq_true, decide_eq_true_eq, List.mem_append, List.mem_singleton, Prod.mk.injEq]
  constructor
  · rintro (⟨h1, h2⟩ | ⟨rfl, rfl⟩ | ⟨rfl, rfl⟩)
    · exact ⟨h1, h2.imp .inl .inl⟩
    · exact ⟨hb, .inl (.inr ⟨rfl, rfl⟩)⟩
    · exact ⟨ha, .inr (.inr ⟨rfl, rfl⟩)⟩
  · rintro ⟨h1, (h2 | ⟨rfl, rfl⟩) | (h2 | ⟨rfl, rfl⟩)⟩
    · exact .inl ⟨h1, .inl h2⟩
    · exact .inr (.inl ⟨rfl, rfl⟩)
    · exact .inl ⟨h1, .inr h2⟩
    · exact .inr (.inr ⟨rfl, rfl⟩)
theorem mem_edN_iff {n : Nat} {E : Nat → Nat → Bool} {a b : Nat} : (a, b) ∈ edN n E n ↔ a < b ∧ b < n ∧ E a b = true := by
  simp only [edN, edRow, List.mem_flatMap, List.mem_range, List.mem_map, List.mem_filter, Bool.and_eq_true, decide_eq_true_eq, Prod.mk.injEq]
  constructor
  · rintro ⟨u, hu, v, ⟨hv, h1, h2⟩, rfl, rfl⟩
    exact ⟨h1, hv, h2⟩
  · rintro ⟨h1, h2, h3⟩
    exact ⟨a, by omega, b, ⟨h2, h1, h3⟩, rfl, rfl⟩
theorem memE_edN {g : List (List Int)} (hg : GOk g) : matG g.length (memE (edN g.length (ofG g) g.length)) = g := by
  rw [← matG_congr (E := ofG g)]
  · exact matG_ofG hg
  · intro r j hr hj
    rw [Bool.eq_iff_iff]
    simp only [memE, decide_eq_true_eq, mem_edN_iff]
    constructor
    · intro h
      rcases Nat.lt_trichotomy r j with h1 | rfl | h1
      · exact .inl ⟨h1, hj, h⟩
      · rw [ofG_irr hg] at h; cases h
      · exact .inr ⟨h1, hr, ofG_sym hg _ _ h⟩
    · rintro (⟨_, _, h⟩ | ⟨_, _, h⟩)
      · exact h
      · exact ofG_sym hg _ _ h
theorem perm_sumI {a b : List Int} (h : a.Perm b) : a.sum = b.sum := by
  induction h with
  | nil => rfl
  | cons x _ ih => simp [ih]
  | swap x y l => simp; omega
  | trans _ _ h1 h2 => exact h1.trans h2
theorem sum_take_snoc {l : List Int} {k : Nat} (h : k < l.length) : (l.take (k + 1)).sum = (l.take k).sum + l[k] := by
  rw [List.take_succ_eq_append_getElem h, List.sum_append]
  simp
theorem sum_bound {l : List Int} {c : Int} (h : ∀ x ∈ l, 0 ≤ x ∧ x ≤ c) : 0 ≤ l.sum ∧ l.sum ≤ c * l.length := by
  induction l with
  | nil => simp
  | cons a l ih =>
    have h1 := h a (by simp)
    have h2 := ih fun x hx => h x (by simp [hx])
    rw [List.sum_cons, List.length_cons]
    have e : c * ((l.length + 1 : Nat) : Int) = c * (l.length : Int) + c := by rw [Int.natCast_add, Int.mul_add]; simp
    rw [e]
    omega
/-- The degrees of the first vertices. -/
def degL (g : List (List Int)) (k : Nat) : List Int := (List.range k).map fun v => ((row g v).length : Int)
theorem degL_succ (g : List (List Int)) (k : Nat) : degL g (k + 1) = degL g k ++ [((row g k).length : Int)] := by simp [degL, List.range_succ]
theorem degL_length (g : List (List Int)) (k : Nat) : (degL g k).length = k := by simp [degL]
theorem row_degE {g : List (List Int)} (hg : GOk g) {v : Nat} (hv : v < g.length) : (row g v).length = degN g.length (ofG g) v := by
  have hs := (hg.sets v hv).1
  have e : (row g v).map Int.toNat = (List.range g.length).filter (ofG g v) := by
    refine rising_ext _ _ ?_ (List.Pairwise.filter _ List.pairwise_lt_range) fun x => ?_
    · rw [List.pairwise_map]
      refine hs.2.imp_of_mem fun {a b} ha hb hab => ?_
      have := hs.1 a ha
      have := hs.1 b hb
      omega
    · rw [List.mem_map, List.mem_filter, List.mem_range]
      simp only [ofG, decide_eq_true_eq]
      constructor
      · rintro ⟨y, hy, rfl⟩
        have := hs.1 y hy
        exact ⟨by omega, by rw [show ((y.toNat : Nat) : Int) = y by omega]; exact hy⟩
      · rintro ⟨_, h⟩
        exact ⟨_, h, by simp⟩
  have := congrArg List.length e
  rw [List.length_map] at this
  rw [this, degN, List.countP_eq_length_filter]
theorem degL_sum {g : List (List Int)} (hg : GOk g) : (degL g g.length).sum = ((2 * (edN g.length (ofG g) g.length).length : Nat) : Int) := by
  have h1 := two_cntE hg
  rw [cntE_edN hg _ (Nat.le_refl _)] at h1
  rw [← h1]
  unfold degL totN
  have : ∀ k, k ≤ g.length → ((List.range k).map fun v => ((row g v).length : Int)).sum = ((((List.range k).map (degN g.length (ofG g))).sum : Nat) : Int) := by
    intro k
    induction k with
    | zero => intro _; rfl
    | succ k ih =>
      intro hk
      rw [List.range_succ, List.map_append, List.map_append, List.sum_append, List.sum_append, ih (by omega)]
      have := row_degE hg (v := k) (by omega)
      simp [this]
  exact this g.length (Nat.le_refl _)

end Go.Proofs.YtjdlmjmhlbpooaaDoor

/- Walks: the reference's edges. -/
namespace Go.Proofs.YtjdlmjmhlbpooaaDoor
open Go.RowKit

set_option maxRecDepth 100000 in
set_option maxHeartbeats 4000000 in
theorem l1EdgesC_any (v : Value) (g : List (List Int)) (hok : GOk g) (w : World) (hg : Gr w v g) :
    Calls Tryd.prog 93 #[v] w fun e w' => ∃ u : Value, e = .returned u ∧ PrsO w' w.heap.size u (edN g.length (ofG g) g.length) ∧ Below w.heap.size w w' := by
  have hg0 := hg
  obtain ⟨u, rfl, hr⟩ := hg
  obtain ⟨p, c, rfl, _⟩ := hr.shape
  have h16 := hok.le
  have hbA := below_alloc w (.cells #[.slice p g.length c] 29)
  have HB := Lib.hid hbA
  have BX := Lib.hid ((Box.new w (.slice p g.length c) 29).alloc (.cells #[] 26))
  have HG := Lib.hid hg0
  have H2 := Lib.hid (gOk_row_le hok)
  have HOK := Lib.hid hok
  have HR := Lib.hid hr
  have HC : Hid (∀ k, k ≤ g.length → (edN g.length (ofG g) k).length ≤ 256) := Lib.hid fun k hk => by
    have := edN_length g.length (ofG g) k
    have : k * g.length ≤ 16 * 16 := Nat.mul_le_mul (by omega) h16
    omega
  clear hr hg0 hbA hok
  go_enter Tryd.func93, Tryd.ntmps93
  go_wp2
  go_loopw [3, 4] (fun u i wr => ∃ k : Nat, k ≤ g.length ∧ i = .int .i64 k ∧ PrsO wr (w.heap.size + 1) u (edN g.length (ofG g) k) ∧ Below w.heap.size w wr ∧ Box wr w.heap.size 29 (.slice p g.length c))
    (fun _ i _ => g.length - (intOf i).toNat)
  case atStart => exact ⟨0, Nat.zero_le _, rfl, by have := PrsO.nil (w.alloc (.cells #[.slice p g.length c] 29)) (w.heap.size + 1) (by rw [size_alloc]; omega); rw [size_alloc] at this; exact this, HB.out.alloc HB.out.size _, BX.out⟩
  case round =>
    obtain ⟨k, hk, rfl, hown, hbel, hbx⟩ := hrel
    have hc := hbx.cell
    have Hbx := Lib.hid hbx
    obtain ⟨outp, outc, rfl⟩ := hown.shape
    have Hown := Lib.hid hown
    have hsz := hbel.size
    clear hown hbx
    by_cases hlt : k < g.length
    · obtain ⟨b, o, rp, rc, rfl, hcell, hnums⟩ := (HR.out.below hbel).get hlt
      change wr.cell? _ = some (.slice rp (row g k).length rc) at hcell
      have Hnums2 : Hid (Nums wr 2 .i64 (.slice rp (row g k).length rc) (row g k)) := Lib.hid hnums
      have hlen2 := H2.out k hlt
      have hck := HC.out k hk
      have HEND := Lib.hid (edT_end HOK.out hlt)
      clear hnums hcell
      go_wp2_with (go_at_call 53; refine (l1Size_any _ g _ (HG.out.below hbel)).mono ?_; rintro e w4 ⟨rfl, hb4⟩)
      have START : Hid (PrsO w4 (w.heap.size + 1) (.slice outp (edN g.length (ofG g) k).length outc) (edN g.length (ofG g) k ++ edT g k 0)) := Lib.hid (by
        have : edT g k 0 = [] := by simp [edT]
        rw [this, List.append_nil]; exact Hown.out.below hb4)
      have HBEL := Lib.hid (hbel.trans (hb4.mono hsz))
      have HBX4 := Lib.hid (Hbx.out.keep hb4)
      go_loopw [3, 5] (fun u i wx => ∃ t : Nat, t ≤ (row g k).length ∧ i = .int .i64 t ∧ PrsO wx (w.heap.size + 1) u (edN g.length (ofG g) k ++ edT g k t) ∧ Below w.heap.size w wx ∧ Box wx w.heap.size 29 (.slice (some ⟨b, o, none⟩) g.length c))
        (fun _ i _ => (row g k).length - (intOf i).toNat)
      case atStart => exact ⟨0, Nat.zero_le _, rfl, START.out, HBEL.out, HBX4.out⟩
      case round =>
        clear START Hown hbel HBEL hsz Hnums2 hc Hbx HBX4 hb4
        obtain ⟨t, ht, rfl, hown, hbel, hbx⟩ := hrel
        have hc := hbx.cell
        have Hbx := Lib.hid hbx
        obtain ⟨_, _, rp, rc, e, hcell, hnums⟩ := (HR.out.below hbel).get hlt
        simp only [Option.some.injEq, Addr.mk.injEq, and_true] at e
        obtain ⟨rfl, rfl⟩ := e
        replace hcell : wr.cell? _ = some (.slice rp (row g k).length rc) := hcell
        replace hnums : Nums wr 2 .i64 (.slice rp (row g k).length rc) (row g k) := hnums
        have hsz := hbel.size
        obtain ⟨outp, outc, rfl⟩ := hown.shape
        clear hbx
        have hte := edT_len g k t
        by_cases hlt2 : t < (row g k).length
        · obtain ⟨rb, ro, rfl, hcx⟩ := hnums.get hlt2
          have hsucc := Lib.hid (edT_succ (g := g) (k := k) hlt2)
          have hX0 := Lib.hid (((HOK.out.sets k hlt).1.1 _ (List.getElem_mem hlt2)).1)
          by_cases hgt : (k : Int) < (row g k)[t]
          · generalize (row g k)[t] = X at hcx hgt hsucc hX0
            obtain ⟨vals, hv1, hv2, hv3⟩ := hown
            have hll : (edN g.length (ofG g) k ++ edT g k t).length < 1000000000 := by rw [List.length_append]; omega
            have HV3 := Lib.hid hv3
            have HV1 := Lib.hid hv1
            clear hnums hv3 hv1 hte
            generalize hq : (edN g.length (ofG g) k ++ edT g k t).length = q at hll hv2
            go_wp2_with (at_builtin; refine wpList_app1s ty_rows64 rfl rfl rfl (hv2.alloc (.cells #[.int .i64 k, .int .i64 X] 2)) (by rw [size_alloc]; rfl) rfl hll (by rw [size_alloc]; omega) ?_; intro b7 c8 w7 hown7 hg7 _)
            go_roundw
            case rel =>
              have ha := below_alloc wr (.cells #[.int .i64 k, .int .i64 X] 2)
              have hrow : Nums (wr.alloc (.cells #[.int .i64 k, .int .i64 X] 2)) 2 .i64 (.slice (some ⟨wr.heap.size, 0, none⟩) 2 2) [((k : Nat) : Int), ((X.toNat : Nat) : Int)] := by
                rw [Int.toNat_of_nonneg hX0.out]
                exact Nums.of_owns (World.ownsRow_lit (size := 1) wr #[.int .i64 k, .int .i64 X] 2 (Nat.le_refl wr.heap.size) (by decide) rfl) rfl (by decide)
              subst hq
              refine ⟨t + 1, by omega, by go_num, ?_, below_grown (hbel.alloc hsz _) (hv2.alloc _) hg7 (by omega) (by rw [size_alloc]; omega), (Hbx.out.keep ha).below (below_grown (Below.refl (w.heap.size + 1) _) (hv2.alloc _) hg7 (Nat.le_refl _) (by rw [size_alloc]; omega)) (by omega)⟩
              rw [hsucc.out, if_pos hgt, ← List.append_assoc]
              exact PrsO.snoc (e := (k, X.toNat)) HV1.out (hv2.alloc _) (fun j hj => (HV3.out j hj).below ha) hown7 hg7 hrow
            case measure => simp [intOf]; omega
          · have Hown := Lib.hid hown
            generalize (row g k)[t] = X at hcx hgt hsucc hX0
            clear hown hnums
            go_wp2
            go_roundw
            case rel => exact ⟨t + 1, by omega, by go_num, by rw [hsucc.out, if_neg hgt]; exact Hown.out, hbel, Hbx.out⟩
            case measure => simp [intOf]; omega
        · obtain rfl : t = (row g k).length := by omega
          have Hown := Lib.hid hown
          clear hown hnums
          go_wp2
          go_roundw
          case rel =>
            refine ⟨k + 1, by omega, by go_num, ?_, hbel, Hbx.out⟩
            rw [edN_succ, ← HEND.out]
            exact Hown.out
          case measure => simp [intOf]; omega
    · obtain rfl : k = g.length := by omega
      go_wp2_with (go_at_call 53; refine (l1Size_any _ g _ (HG.out.below hbel)).mono ?_; rintro e w4 ⟨rfl, hb4⟩)
      go_ret
      exact ⟨_, rfl, (Hown.out.below hb4).base (by omega), hbel.trans (hb4.mono hsz)⟩

set_option maxHeartbeats 1000000 in
theorem specEdgesOf_any (v : Value) (g : List (List Int)) (hok : GOk g) (w : World) (hg : Gr w v g) :
    Calls Tryd.prog 34 #[v] w fun e w' => ∃ u : Value, e = .returned u ∧ PrsO w' w.heap.size u (edN g.length (ofG g) g.length) ∧ Below w.heap.size w w' := by
  have hg0 := hg
  obtain ⟨u, rfl, hr⟩ := hg
  obtain ⟨p, c, rfl, _⟩ := hr.shape
  have hbA := Lib.hid (below_alloc w (.cells #[.slice p g.length c] 29))
  have HG := Lib.hid (hg0.below hbA.out)
  have BX := Lib.hid (Box.new w (.slice p g.length c) 29)
  have HOK := Lib.hid hok
  have hd := Lib.hid (dec_true hok)
  clear hr hg0 hok
  go_enter Tryd.func34, Tryd.ntmps34
  go_wp2_with (first
    | (go_at_call 29; refine (specGraphOk_any _ g _ HG.out).mono ?_; rintro e w2 ⟨he, hb2⟩; rw [hd.out] at he; subst he; have hcx := (BX.out.keep hb2).cell)
    | (go_at_call 93; refine (l1EdgesC_any _ g HOK.out _ (HG.out.below hb2)).mono ?_; rintro e w3 ⟨u3, rfl, hp3, hb3⟩))
  go_ret
  have h1 := hbA.out.trans (hb2.mono hbA.out.size)
  exact ⟨_, rfl, hp3.base h1.size, h1.trans (hb3.mono h1.size)⟩

end Go.Proofs.YtjdlmjmhlbpooaaDoor
