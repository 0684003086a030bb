/- Walks: the edges of a graph, of both; how many. -/
import Derived.Test.YtkppbmfliejnmaaDoorLpQ6
import Derived.Test.YtkppbmfliejnmaaDoorLpQ9
import Derived.Test.YtkppbmfliejnmaaDoorLpQ4
import Derived.Test.YtkppbmfliejnmaaDoorLpQ40
import Derived.Test.YtkppbmfliejnmaaDoorLpQ36
import Derived.Test.YtkppbmfliejnmaaDoorLpQ8
import Derived.Deep.RegionHeld3
import Derived.Deep.DeepCutAuto
namespace Go.Proofs.YtkppbmfliejnmaaDoor
open Go.RowKit

theorem up_u (k : Nat) (xs : List Int) {i : Nat} (h : i < xs.length) (e : (k : Int) < xs[i]) : upL k (xs.take (i + 1)) = upL k (xs.take i) + 1 := by rw [upL_snoc h, if_pos e]
theorem up_n (k : Nat) (xs : List Int) {i : Nat} (h : i < xs.length) (e : ¬ (k : Int) < xs[i]) : upL k (xs.take (i + 1)) = upL k (xs.take i) := by rw [upL_snoc h, if_neg e, Nat.add_zero]

set_option maxRecDepth 100000 in
set_option maxHeartbeats 4000000 in
theorem l1Edges_any (v : Value) (g : List (List Int)) (h16 : g.length ≤ 16) (h2 : ∀ j, (row g j).length ≤ 16) (w : World) (hg : Gr w v g) :
    Calls Tryd.prog 140 #[v] w fun e w' => ∃ (u : Value) (vals : List Value), e = .returned u ∧ w'.ownsRow w.heap.size 33 1 u (cntE g g.length) vals ∧ Below w.heap.size w w' := by
  have hg0 := hg
  obtain ⟨u, rfl, hr⟩ := hg
  obtain ⟨p, c, rfl, _⟩ := hr.shape
  have hbA := below_alloc w (.cells #[.slice p g.length c] 29)
  have HB := Lib.hid hbA
  have BX := Lib.hid ((Box.new w (.slice p g.length c) 29).alloc (.cells #[] 33))
  have HG := Lib.hid hg0
  have H2 := Lib.hid h2
  have HR := Lib.hid hr
  have HC := Lib.hid (cntE_le h2)
  clear hr hg0 hbA h2
  go_enter Tryd.func140, Tryd.ntmps140
  go_wp2
  go_loopw [3, 4] (fun u i wr => ∃ (k : Nat) (vals : List Value), k ≤ g.length ∧ i = .int .i64 k ∧ wr.ownsRow (w.heap.size + 1) 33 1 u (cntE g k) vals ∧ Below w.heap.size w wr ∧ Box wr w.heap.size 29 (.slice p g.length c))
    (fun _ i _ => g.length - (intOf i).toNat)
  case atStart => exact ⟨0, [], Nat.zero_le _, rfl, ownsRow_empty' _ _ _ _ _ (Nat.le_refl _), HB.out.alloc HB.out.size _, BX.out⟩
  case round =>
    obtain ⟨k, vals, hk, rfl, hown, hbel, hbx⟩ := hrel
    have hc := hbx.cell
    obtain ⟨outp, outc, rfl⟩ := owns_shape hown
    have Hown := Lib.hid hown
    have Hbx := Lib.hid hbx
    have hsz := hbel.size
    clear hown hbx
    by_cases hlt : k < g.length
    · obtain ⟨b, o, rp, rc, rfl, hcell, hnums⟩ := (HR.out.below hbel).get hlt
      clear hcell hnums
      go_wp2_with (go_at_call 132; refine (l1Size_any _ g _ (HG.out.below hbel)).mono ?_; rintro e w4 ⟨rfl, hb4⟩)
      have START : Hid (w4.ownsRow (w.heap.size + 1) 33 1 (.slice outp (cntE g k) outc) (cntE g k) vals ∧ Below w.heap.size w w4 ∧ Box w4 w.heap.size 29 (.slice (some ⟨b, o, none⟩) g.length c)) := Lib.hid
        ⟨ownsRow_below Hown.out hb4, hbel.trans (hb4.mono hsz), Hbx.out.keep hb4⟩
      go_loopw [3, 5] (fun u i wr => ∃ (t : Nat) (vals : List Value), t ≤ (row g k).length ∧ i = .int .i64 t ∧ wr.ownsRow (w.heap.size + 1) 33 1 u (cntE g k + upL k ((row g k).take t)) vals ∧ Below w.heap.size w wr ∧ Box wr w.heap.size 29 (.slice (some ⟨b, o, none⟩) g.length c))
        (fun _ i _ => (row g k).length - (intOf i).toNat)
      case atStart => exact ⟨0, vals, Nat.zero_le _, rfl, START.out.1, START.out.2.1, START.out.2.2⟩
      case round =>
        clear START Hown Hbx hc hbel hsz
        obtain ⟨t, vals2, ht, rfl, hown, hbel, hbx⟩ := hrel
        have hc := hbx.cell
        have hsz := hbel.size
        obtain ⟨outp, outc, rfl⟩ := owns_shape hown
        obtain ⟨_, _, rp, rc, e1, hcell, hnums⟩ := (HR.out.below hbel).get hlt
        cases e1
        have hlen2 := H2.out k
        have hck := HC.out k
        change wr.cell? _ = some (.slice rp (row g k).length rc) at hcell
        change Nums wr _ _ (.slice rp (row g k).length rc) (row g k) at hnums
        have hcb : cntE g k + upL k ((row g k).take t) < 1000000000 := by
          have := upL_le k ((row g k).take t)
          rw [List.length_take] at this
          have : k * 16 ≤ 16 * 16 := Nat.mul_le_mul_right _ (by omega)
          omega
        have Hbx := Lib.hid hbx
        have Hhck := Lib.hid hck
        clear hbx hck
        by_cases hlt2 : t < (row g k).length
        · obtain ⟨rb, ro, rfl, hcx⟩ := hnums.get hlt2
          by_cases hgt : (k : Int) < (row g k)[t]
          · have Hup := Lib.hid (up_u k (row g k) hlt2 hgt)
            generalize (row g k)[t] = X at hcx hgt
            go_wp2_with (at_builtin; refine wpList_app1s ty_rows64 rfl rfl rfl (hown.alloc (.cells #[.int .i64 k, .int .i64 X] 2)) (by rw [size_alloc]; rfl) rfl hcb (by rw [size_alloc]; omega) ?_; intro b7 c8 w7 hown7 hg7 _)
            go_roundw
            case rel =>
              have ha := below_alloc wr (.cells #[.int .i64 k, .int .i64 X] 2)
              refine ⟨t + 1, _, by omega, by go_num, by rw [Hup.out, ← Nat.add_assoc]; exact hown7, below_grown (hbel.alloc hsz _) (hown.alloc _) hg7 (by omega) (by rw [size_alloc]; omega), ?_⟩
              exact (Hbx.out.keep ha).below (below_grown (Below.refl (w.heap.size + 1) _) (hown.alloc _) hg7 (Nat.le_refl _) (by rw [size_alloc]; omega)) (by omega)
            case measure => simp [intOf]; omega
          · have Hup := Lib.hid (up_n k (row g k) hlt2 hgt)
            have Hown := Lib.hid hown
            generalize (row g k)[t] = X at hcx hgt
            clear hown
            go_wp2
            go_roundw
            case rel => exact ⟨t + 1, _, by omega, by go_num, by rw [Hup.out]; exact Hown.out, hbel, Hbx.out⟩
            case measure => simp [intOf]; omega
        · obtain rfl : t = (row g k).length := by omega
          have Hown := Lib.hid hown
          clear hown hnums
          go_wp2
          go_roundw
          case rel =>
            refine ⟨k + 1, vals2, by omega, by go_num, ?_, hbel, Hbx.out⟩
            rw [show cntE g (k + 1) = cntE g k + upL k ((row g k).take (row g k).length) from by rw [List.take_length]; rfl]
            exact Hown.out
          case measure => simp [intOf]; omega
    · obtain rfl : k = g.length := by omega
      go_wp2_with (go_at_call 132; refine (l1Size_any _ g _ (HG.out.below hbel)).mono ?_; rintro e w4 ⟨rfl, hb4⟩)
      go_ret
      exact ⟨_, _, rfl, ownsRow_base (ownsRow_below Hown.out hb4) (by omega), hbel.trans (hb4.mono hsz)⟩

set_option maxRecDepth 100000 in
set_option maxHeartbeats 4000000 in
theorem edgesOf_any (v : Value) (g : List (List Int)) (h16 : g.length ≤ 16) (h2 : ∀ j, (row g j).length ≤ 16) (w : World) (hg : Gr w v g) :
    Calls Tryd.prog 217 #[v] w fun e w' => ∃ (u : Value) (vals : List Value), e = .returned u ∧ w'.ownsRow w.heap.size 33 1 u (cntE g g.length) vals ∧ Below w.heap.size w w' := by
  have hg0 := hg
  obtain ⟨u, rfl, hr⟩ := hg
  obtain ⟨p, c, rfl, _⟩ := hr.shape
  have hbA := below_alloc w (.cells #[.slice p g.length c] 29)
  have HB := Lib.hid hbA
  have BX := Lib.hid ((Box.new w (.slice p g.length c) 29).alloc (.cells #[] 33))
  have H2 := Lib.hid h2
  have HR := Lib.hid hr
  have HC := Lib.hid (cntE_le h2)
  clear hr hg0 hbA h2
  go_enter Tryd.func217, Tryd.ntmps217
  go_wp2
  go_loopw [3, 12] (fun u i wr => ∃ (k : Nat) (vals : List Value), k ≤ g.length ∧ i = .int .i64 k ∧ wr.ownsRow (w.heap.size + 1) 33 1 u (cntE g k) vals ∧ Below w.heap.size w wr)
    (fun _ i _ => g.length - (intOf i).toNat)
  case atStart => exact ⟨0, [], Nat.zero_le _, rfl, ownsRow_empty' _ _ _ _ _ (Nat.le_refl _), HB.out.alloc HB.out.size _⟩
  case round =>
    obtain ⟨k, vals, hk, rfl, hown, hbel⟩ := hrel
    obtain ⟨outp, outc, rfl⟩ := owns_shape hown
    have Hown := Lib.hid hown
    have hsz := hbel.size
    clear hown
    by_cases hlt : k < g.length
    · obtain ⟨b, o, rp, rc, rfl, hcell, hnums⟩ := (HR.out.below hbel).get hlt
      have Hnums := Lib.hid hnums
      clear hnums
      have hlen2 := H2.out k
      have hck := HC.out k
      have hcb : ∀ t, cntE g k + upL k ((row g k).take t) < 1000000000 := fun t => by
        have := upL_le k ((row g k).take t)
        rw [List.length_take] at this
        have : k * 16 ≤ 16 * 16 := Nat.mul_le_mul_right _ (by omega)
        omega
      have Hhck := Lib.hid hck
      have Hcb := Lib.hid hcb
      clear hck hcb
      change wr.cell? _ = some (.slice rp (row g k).length rc) at hcell
      have Hnums2 : Hid (Nums wr 2 .i64 (.slice rp (row g k).length rc) (row g k)) := Lib.hid Hnums.out
      clear Hnums
      go_wp2
      have START : Hid (wr.ownsRow (w.heap.size + 1) 33 1 (.slice outp (cntE g k) outc) (cntE g k) vals ∧ Below w.heap.size w wr) := Lib.hid ⟨Hown.out, hbel⟩
      go_loopw [3, 19] (fun u i wx => ∃ (t : Nat) (vals : List Value), t ≤ (row g k).length ∧ i = .int .i64 t ∧ wx.ownsRow (w.heap.size + 1) 33 1 u (cntE g k + upL k ((row g k).take t)) vals ∧ Below w.heap.size w wx ∧ Nums wx 2 .i64 (.slice rp (row g k).length rc) (row g k))
        (fun _ i _ => (row g k).length - (intOf i).toNat)
      case atStart => exact ⟨0, vals, Nat.zero_le _, rfl, START.out.1, START.out.2, Hnums2.out⟩
      case round =>
        clear START Hown hbel hsz hcell Hnums2
        obtain ⟨t, vals2, ht, rfl, hown, hbel, hnums⟩ := hrel
        have hsz := hbel.size
        obtain ⟨outp, outc, rfl⟩ := owns_shape hown
        have Hnums := Lib.hid hnums
        have hcb := Hcb.out t
        by_cases hlt2 : t < (row g k).length
        · obtain ⟨rb, ro, rfl, hcx⟩ := hnums.get hlt2
          by_cases hgt : (k : Int) < (row g k)[t]
          · have Hup := Lib.hid (up_u k (row g k) hlt2 hgt)
            generalize (row g k)[t] = X at hcx hgt
            clear hnums
            go_wp2_with (at_builtin; refine wpList_app1s ty_rows64 rfl rfl rfl (hown.alloc (.cells #[.int .i64 k, .int .i64 X] 2)) (by rw [size_alloc]; rfl) rfl hcb (by rw [size_alloc]; omega) ?_; intro b7 c8 w7 hown7 hg7 _)
            go_roundw
            case rel =>
              have ha := below_alloc wr (.cells #[.int .i64 k, .int .i64 X] 2)
              exact ⟨t + 1, _, by omega, by go_num, by rw [Hup.out, ← Nat.add_assoc]; exact hown7, below_grown (hbel.alloc hsz _) (hown.alloc _) hg7 (by omega) (by rw [size_alloc]; omega), (Hnums.out.below ha).other (hown.alloc _) hg7 (by decide)⟩
            case measure => simp [intOf]; omega
          · have Hup := Lib.hid (up_n k (row g k) hlt2 hgt)
            have Hown := Lib.hid hown
            generalize (row g k)[t] = X at hcx hgt
            clear hown hnums
            go_wp2
            go_roundw
            case rel => exact ⟨t + 1, _, by omega, by go_num, by rw [Hup.out]; exact Hown.out, hbel, Hnums.out⟩
            case measure => simp [intOf]; omega
        · obtain rfl : t = (row g k).length := by omega
          have Hown := Lib.hid hown
          clear hown hnums
          go_wp2
          go_roundw
          case rel =>
            refine ⟨k + 1, vals2, by omega, by go_num, ?_, hbel⟩
            rw [show cntE g (k + 1) = cntE g k + upL k ((row g k).take (row g k).length) from by rw [List.take_length]; rfl]
            exact Hown.out
          case measure => simp [intOf]; omega
    · obtain rfl : k = g.length := by omega
      go_wp2
      go_ret
      exact ⟨_, _, rfl, ownsRow_base Hown.out (by omega), hbel⟩

end Go.Proofs.YtkppbmfliejnmaaDoor

/- Walks: how many edges a graph has, of both (out of XFillM, without what that text needs besides). -/
namespace Go.Proofs.YtkppbmfliejnmaaDoor
open Go.RowKit

theorem gok_rowsN {g : List (List Int)} (hok : GOk g) (j : Nat) : (row g j).length ≤ 16 := by
  have h16 := hok.le
  by_cases hj : j < g.length
  · have h1 := setIn_length (by omega) (hok.sets j hj).1; omega
  · rw [row_out hj]; simp

theorem specManyN_any (v : Value) (g : List (List Int)) (hok : GOk g) (w : World) (hg : Gr w v g) :
    Calls Tryd.prog 56 #[v] w fun e w' => e = .returned (.int .i64 (cntE g g.length : Nat)) ∧ Below w.heap.size w w' := by
  have hg0 := hg
  obtain ⟨u, rfl, hr⟩ := hg
  obtain ⟨p, c, rfl, _⟩ := hr.shape
  have hbA := Lib.hid (below_alloc w (.cells #[.slice p g.length c] 29))
  have BX := Lib.hid (Box.new w (.slice p g.length c) 29)
  have HG := Lib.hid (hg0.below hbA.out)
  have hd := dec_true hok
  have Hok := Lib.hid hok
  have h16 := hok.le
  clear hr hg0 hok
  go_enter Tryd.func56, Tryd.ntmps56
  go_wp2_with (first
    | (go_at_call 73; refine (specGraphOk_any _ g _ HG.out).mono ?_; rintro e w2 ⟨rfl, hb2⟩; have hbx := (BX.out.keep hb2).cell)
    | (go_at_call 140; refine (l1Edges_any _ g h16 (gok_rowsN Hok.out) _ (HG.out.below hb2)).mono ?_; rintro e w3 ⟨u3, vals, rfl, ho3, hb3⟩; obtain ⟨p3, c3, rfl⟩ := owns_shape ho3))
  go_ret
  exact ⟨rfl, (hbA.out.trans (hb2.mono hbA.out.size)).trans (hb3.mono (Nat.le_trans hbA.out.size hb2.size))⟩

theorem implManyN_any (v : Value) (g : List (List Int)) (hok : GOk g) (w : World) (hg : Gr w v g) :
    Calls Tryd.prog 76 #[v] w fun e w' => e = .returned (.int .i64 (cntE g g.length : Nat)) ∧ Below w.heap.size w w' := by
  have hd := dec_true hok
  have Hok := Lib.hid hok
  have h16 := hok.le
  clear hok
  have E : Hid (∀ (w : World), Gr w v g → Calls Tryd.prog 171 #[v] w fun e w' => ∃ p c, e = .returned (.slice p (cntE g g.length) c) ∧ Below w.heap.size w w') := Lib.hid (by
    clear hg w
    intro w hg
    have hg0 := hg
    obtain ⟨u, rfl, hr⟩ := hg
    obtain ⟨p, c, rfl, _⟩ := hr.shape
    have hbA := Lib.hid (below_alloc w (.cells #[.slice p g.length c] 29))
    have BX := Lib.hid (Box.new w (.slice p g.length c) 29)
    have HG := Lib.hid (hg0.below hbA.out)
    clear hr hg0
    go_enter Tryd.func171, Tryd.ntmps171
    go_wp2_with (first
      | (go_at_call 87; refine (implGraphOk_any _ g _ HG.out).mono ?_; rintro e w2 ⟨rfl, hb2⟩; have hbx := (BX.out.keep hb2).cell)
      | (go_at_call 217; refine (edgesOf_any _ g h16 (gok_rowsN Hok.out) _ (HG.out.below hb2)).mono ?_; rintro e w3 ⟨u3, vals, rfl, ho3, hb3⟩; obtain ⟨p3, c3, rfl⟩ := owns_shape ho3))
    go_ret
    exact ⟨_, _, rfl, (hbA.out.trans (hb2.mono hbA.out.size)).trans (hb3.mono (Nat.le_trans hbA.out.size hb2.size))⟩)
  have hg0 := hg
  obtain ⟨u, rfl, hr⟩ := hg
  obtain ⟨p, c, rfl, _⟩ := hr.shape
  have hbA := Lib.hid (below_alloc w (.cells #[.slice p g.length c] 29))
  have HG := Lib.hid (hg0.below hbA.out)
  clear hr hg0
  go_enter Tryd.func76, Tryd.ntmps76
  go_wp2_with (go_at_call 171; refine (E.out _ HG.out).mono ?_; rintro e w2 ⟨p2, c2, rfl, hb2⟩)
  go_ret
  exact ⟨rfl, hbA.out.trans (hb2.mono hbA.out.size)⟩

end Go.Proofs.YtkppbmfliejnmaaDoor

/- Walk: the reference's parts. -/
namespace Go.Proofs.YtkppbmfliejnmaaDoor
open Go.RowKit

theorem rising_sub_len {L D : List Nat} (hL : L.Pairwise (· < ·)) (hD : D.Pairwise (· < ·)) (h : ∀ x ∈ D, x ∈ L) : D.length ≤ L.length := by
  have e : D = L.filter (fun x => decide (x ∈ D)) := rising_ext _ _ hD (List.Pairwise.filter _ hL) fun x => by
    rw [List.mem_filter]
    exact ⟨fun hx => ⟨h x hx, by simpa using hx⟩, fun hx => by simpa using hx.2⟩
  rw [e]
  exact List.length_filter_le _ _
theorem row_parts {ps : List (List Nat)} {j : Nat} (h : j < ps.length) : row (ps.map natInts) j = natInts ps[j] := by simp [row, h]
theorem SG.snocP {w w' : World} {base : Nat} {u u' rv : Value} {ps : List (List Nat)} {p : List Nat} {vals : List Value} (hl : vals.length = ps.length) (ho : w.ownsRow base 33 1 u ps.length vals) (hr : ∀ j, j < ps.length → Nums w 2 .i64 (vals.getD j undef) (row (ps.map natInts) j))
    (ho' : w'.ownsRow base 33 1 u' (ps.length + 1) (vals ++ [rv])) (hg : w.grownBy w' u.ownBlock) (hn : Nums w 2 .i64 rv (natInts p)) : SG w' base (.agg #[u']) ((ps ++ [p]).map natInts) := by
  refine ⟨u', vals ++ [rv], rfl, by simp [hl], by rw [List.length_map, List.length_append]; exact ho', fun j hj => ?_⟩
  rw [List.length_map, List.length_append] at hj
  by_cases h : j < ps.length
  · rw [getD_append_left _ _ _ _ (by omega)]
    have e2 : row ((ps ++ [p]).map natInts) j = row (ps.map natInts) j := by rw [row_parts (by rw [List.length_append]; omega), row_parts h]; simp [h]
    rw [e2]
    exact (hr j h).other ho hg (by decide)
  · have hj' : j = ps.length := by simp at hj; omega
    subst hj'
    rw [← hl, getD_append_last, hl]
    have e2 : row ((ps ++ [p]).map natInts) ps.length = natInts p := by rw [row_parts (by rw [List.length_append]; simp)]; simp
    rw [e2]
    exact hn.other ho hg (by decide)

theorem sg_shape {w : World} {base : Nat} {u : Value} {g : List (List Int)} (h : SG w base (.agg #[u]) g) : ∃ p c, u = .slice p g.length c := by
  obtain ⟨u', vals, e, _, h3, _⟩ := h
  cases e
  exact owns_shapeR h3
theorem sg_base {w : World} {base base' : Nat} {v : Value} {g : List (List Int)} (h : SG w base v g) (hb : base' ≤ base) : SG w base' v g := by
  obtain ⟨u', vals, e, h2, h3, h4⟩ := h
  exact ⟨u', vals, e, h2, ownsRow_base h3 hb, h4⟩
structure PaW (W0 wr : World) (B : Nat) (gv : Value) (E : Nat → Nat → Bool) (L : List Nat) (o d : Value) (ps : List (List Nat)) (D : List Nat) (k : Nat) : Prop where
  pa : PaI E L ps D k
  out : SG wr B (.agg #[o]) (ps.map natInts)
  dn : Nums wr 2 .i64 d (natInts D)
  bel : Below W0.heap.size W0 wr
  box : Box wr W0.heap.size 29 gv
  hB : W0.heap.size < B
  hB2 : B ≤ wr.heap.size
theorem PaW.start' (w : World) (gv : Value) (E : Nat → Nat → Bool) (L : List Nat) :
    PaW w (((w.alloc (.cells #[gv] 29)).alloc (.cells #[] 33)).alloc (.cells #[] 2)) (w.heap.size + 1) gv E L (.slice (some ⟨w.heap.size + 1, 0, none⟩) 0 0) (.slice (some ⟨w.heap.size + 1 + 1, 0, none⟩) 0 0) [] [] 0 := by
  have s1 : (w.alloc (.cells #[gv] 29)).heap.size = w.heap.size + 1 := by show (w.heap.push _).size = _; simp
  have s2 : ((w.alloc (.cells #[gv] 29)).alloc (.cells #[] 33)).heap.size = w.heap.size + 1 + 1 := by show (Array.push _ _).size = _; rw [Array.size_push, s1]
  refine ⟨.start' E L, ⟨_, [], rfl, rfl, ?_, fun j hj => by simp at hj⟩, ?_, ?_, ?_, by omega, ?_⟩
  · exact ownsRow_below (ownsRow_empty' w _ _ _ _ (Nat.le_refl _)) (below_alloc _ _)
  · have := ownsRow_empty ((w.alloc (.cells #[gv] 29)).alloc (.cells #[] 33)) 2 1
    rw [s2] at this
    exact Nums.of_owns (xs := []) this rfl (by decide)
  · exact ((below_alloc w _).alloc (below_alloc w _).size _).alloc (by omega) _
  · exact ((Box.new w gv 29).alloc _).alloc _
  · have := (below_alloc ((w.alloc (.cells #[gv] 29)).alloc (.cells #[] 33)) (.cells #[] 2)).size
    omega
theorem PaW.skip {W0 wr : World} {B : Nat} {E : Nat → Nat → Bool} {L : List Nat} {gv o d : Value} {ps : List (List Nat)} {D : List Nat} {k : Nat} (h : PaW W0 wr B gv E L o d ps D k) (hi : k < L.length) (hd : L[k] ∈ D) : PaW W0 wr B gv E L o d ps D (k + 1) :=
  ⟨h.pa.skip hi hd, h.out, h.dn, h.bel, h.box, h.hB, h.hB2⟩
/-- While a part's vertices are written down. -/
structure PaV (W0 wr : World) (B : Nat) (gv o d pv : Value) (ps : List (List Nat)) (D P : List Nat) (t : Nat) (D2 : List Nat) : Prop where
  ris : D2.Pairwise (· < ·)
  mem : ∀ x, x ∈ D2 ↔ x ∈ D ∨ x ∈ P.take t
  out : SG wr B (.agg #[o]) (ps.map natInts)
  dn : Nums wr 2 .i64 d (natInts D2)
  prt : Nums wr 2 .i64 pv (natInts P)
  bel : Below W0.heap.size W0 wr
  box : Box wr W0.heap.size 29 gv
  hB : W0.heap.size < B
  hB2 : B ≤ wr.heap.size
theorem PaV.start' {W0 wr w4 : World} {B : Nat} {E : Nat → Nat → Bool} {L : List Nat} {gv o d pv : Value} {ps : List (List Nat)} {D P : List Nat} {k : Nat} (h : PaW W0 wr B gv E L o d ps D k) (hb : Below wr.heap.size wr w4) (hp : Nums w4 2 .i64 pv (natInts P)) : PaV W0 w4 B gv o d pv ps D P 0 D :=
  ⟨h.pa.ris, fun x => by simp, h.out.below hb, h.dn.below hb, hp, h.bel.trans (hb.mono h.bel.size), h.box.keep hb, h.hB, Nat.le_trans h.hB2 hb.size⟩
theorem PaV.next {W0 wr w4 : World} {B : Nat} {gv o d d' pv : Value} {ps : List (List Nat)} {D P D2 D3 : List Nat} {t : Nat} (h : PaV W0 wr B gv o d pv ps D P t D2) (ht : t < P.length) (hb : Below wr.heap.size wr w4) (hd : Nums w4 2 .i64 d' (natInts D3)) (hr : D3.Pairwise (· < ·)) (hm : ∀ x, x ∈ D3 ↔ x ∈ D2 ∨ x = P[t]) : PaV W0 w4 B gv o d' pv ps D P (t + 1) D3 :=
  ⟨hr, fun x => by
    rw [hm, h.mem, take_snoc _ t ht, List.mem_append, List.mem_singleton, or_assoc], h.out.below hb, hd, h.prt.below hb, h.bel.trans (hb.mono h.bel.size), h.box.keep hb, h.hB, Nat.le_trans h.hB2 hb.size⟩
theorem PaV.sub {W0 wr : World} {B : Nat} {E : Nat → Nat → Bool} {L : List Nat} {gv o d pv : Value} {ps : List (List Nat)} {D D2 : List Nat} {t u k : Nat} (h : PaV W0 wr B gv o d pv ps D (partL E L u) t D2) (hp : PaI E L ps D k) (hL : L.Pairwise (· < ·)) : D2.length ≤ L.length :=
  rising_sub_len hL h.ris fun x hx => ((h.mem x).1 hx).elim (hp.sub x) fun q => (mem_partL.1 (List.mem_of_mem_take q)).1

theorem PaW.take {W0 wr wv w7 : World} {B b7 c7 : Nat} {E : Nat → Nat → Bool} (hE : ∀ r j, E r j = true → E j r = true) {L : List Nat} (hL : L.Pairwise (· < ·)) {gv o d dv pv : Value} {ps : List (List Nat)} {D D2 : List Nat} {k y : Nat} {vals : List Value} (h : PaW W0 wr B gv E L o d ps D k)
    (hk : k < L.length) (hy : L[k]'hk = y) (hd : y ∉ D) (hv : PaV W0 wv B gv o dv pv ps D (partL E L y) (partL E L y).length D2)
    (hv1 : vals.length = ps.length) (hv2 : wv.ownsRow B 33 1 o ps.length vals) (hv3 : ∀ j, j < ps.length → Nums wv 2 .i64 (vals.getD j undef) (row (ps.map natInts) j))
    (ho : w7.ownsRow B 33 1 (.slice (some ⟨b7, 0, none⟩) (ps.length + 1) c7) (ps.length + 1) (vals ++ [pv])) (hg : wv.grownBy w7 o.ownBlock) :
    PaW W0 w7 B gv E L (.slice (some ⟨b7, 0, none⟩) (ps.length + 1) c7) dv (ps ++ [partL E L y]) D2 (k + 1) := by
  subst hy
  have hsz := hg.size
  have h1 := hv.hB
  have h2 := hv.hB2
  refine ⟨h.pa.take hE hL hk hd hv.ris (fun x => by rw [hv.mem, List.take_length]), SG.snocP hv1 hv2 hv3 ho hg hv.prt, hv.dn.other hv2 hg (by decide), below_grown hv.bel hv2 hg (by omega) (by omega), hv.box.grown hg fun e => ?_, hv.hB, by omega⟩
  have := (hv2.lt _ e.symm).1
  omega


end Go.Proofs.YtkppbmfliejnmaaDoor
