/- Walks: the reference's edges. -/
import Derived.Test.YtkppbmfliejnmaaDoorBkQ16
import Derived.Test.YtkppbmfliejnmaaDoorBkQ5
import Derived.Test.YtkppbmfliejnmaaDoorBkQ12
import Derived.Test.YtkppbmfliejnmaaDoorBkQ18
namespace Go.Proofs.YtkppbmfliejnmaaDoor
open Go.RowKit

set_option maxRecDepth 100000 in
set_option maxHeartbeats 4000000 in
theorem l1EdgesC_any (v : Value) (g : List (List Int)) (hok : GOk g) (w : World) (hg : Gr w v g) :
    Calls Tryd.prog 140 #[v] w fun e w' => ∃ u : Value, e = .returned u ∧ PrsO w' w.heap.size u (edN g.length (ofG g) g.length) ∧ Below w.heap.size w w' := by
  have hg0 := hg
  obtain ⟨u, rfl, hr⟩ := hg
  obtain ⟨p, c, rfl, _⟩ := hr.shape
  have h16 := hok.le
  have hbA := below_alloc w (.cells #[.slice p g.length c] 29)
  have HB := Lib.hid hbA
  have BX := Lib.hid ((Box.new w (.slice p g.length c) 29).alloc (.cells #[] 33))
  have HG := Lib.hid hg0
  have H2 := Lib.hid (gOk_row_le hok)
  have HOK := Lib.hid hok
  have HR := Lib.hid hr
  have HC : Hid (∀ k, k ≤ g.length → (edN g.length (ofG g) k).length ≤ 256) := Lib.hid fun k hk => by
    have := edN_length g.length (ofG g) k
    have : k * g.length ≤ 16 * 16 := Nat.mul_le_mul (by omega) h16
    omega
  clear hr hg0 hbA hok
  go_enter Tryd.func140, Tryd.ntmps140
  go_wp2
  go_loopw [3, 4] (fun u i wr => ∃ k : Nat, k ≤ g.length ∧ i = .int .i64 k ∧ PrsO wr (w.heap.size + 1) u (edN g.length (ofG g) k) ∧ Below w.heap.size w wr ∧ Box wr w.heap.size 29 (.slice p g.length c))
    (fun _ i _ => g.length - (intOf i).toNat)
  case atStart => exact ⟨0, Nat.zero_le _, rfl, by have := PrsO.nil (w.alloc (.cells #[.slice p g.length c] 29)) (w.heap.size + 1) (by rw [size_alloc]; omega); rw [size_alloc] at this; exact this, HB.out.alloc HB.out.size _, BX.out⟩
  case round =>
    obtain ⟨k, hk, rfl, hown, hbel, hbx⟩ := hrel
    have hc := hbx.cell
    have Hbx := Lib.hid hbx
    obtain ⟨outp, outc, rfl⟩ := hown.shape
    have Hown := Lib.hid hown
    have hsz := hbel.size
    clear hown hbx
    by_cases hlt : k < g.length
    · obtain ⟨b, o, rp, rc, rfl, hcell, hnums⟩ := (HR.out.below hbel).get hlt
      change wr.cell? _ = some (.slice rp (row g k).length rc) at hcell
      have Hnums2 : Hid (Nums wr 2 .i64 (.slice rp (row g k).length rc) (row g k)) := Lib.hid hnums
      have hlen2 := H2.out k hlt
      have hck := HC.out k hk
      have HEND := Lib.hid (edT_end HOK.out hlt)
      clear hnums hcell
      go_wp2_with (go_at_call 132; refine (l1Size_any _ g _ (HG.out.below hbel)).mono ?_; rintro e w4 ⟨rfl, hb4⟩)
      have START : Hid (PrsO w4 (w.heap.size + 1) (.slice outp (edN g.length (ofG g) k).length outc) (edN g.length (ofG g) k ++ edT g k 0)) := Lib.hid (by
        have : edT g k 0 = [] := by simp [edT]
        rw [this, List.append_nil]; exact Hown.out.below hb4)
      have HBEL := Lib.hid (hbel.trans (hb4.mono hsz))
      have HBX4 := Lib.hid (Hbx.out.keep hb4)
      go_loopw [3, 5] (fun u i wx => ∃ t : Nat, t ≤ (row g k).length ∧ i = .int .i64 t ∧ PrsO wx (w.heap.size + 1) u (edN g.length (ofG g) k ++ edT g k t) ∧ Below w.heap.size w wx ∧ Box wx w.heap.size 29 (.slice (some ⟨b, o, none⟩) g.length c))
        (fun _ i _ => (row g k).length - (intOf i).toNat)
      case atStart => exact ⟨0, Nat.zero_le _, rfl, START.out, HBEL.out, HBX4.out⟩
      case round =>
        clear START Hown hbel HBEL hsz Hnums2 hc Hbx HBX4 hb4
        obtain ⟨t, ht, rfl, hown, hbel, hbx⟩ := hrel
        have hc := hbx.cell
        have Hbx := Lib.hid hbx
        obtain ⟨_, _, rp, rc, e, hcell, hnums⟩ := (HR.out.below hbel).get hlt
        simp only [Option.some.injEq, Addr.mk.injEq, and_true] at e
        obtain ⟨rfl, rfl⟩ := e
        replace hcell : wr.cell? _ = some (.slice rp (row g k).length rc) := hcell
        replace hnums : Nums wr 2 .i64 (.slice rp (row g k).length rc) (row g k) := hnums
        have hsz := hbel.size
        obtain ⟨outp, outc, rfl⟩ := hown.shape
        clear hbx
        have hte := edT_len g k t
        by_cases hlt2 : t < (row g k).length
        · obtain ⟨rb, ro, rfl, hcx⟩ := hnums.get hlt2
          have hsucc := Lib.hid (edT_succ (g := g) (k := k) hlt2)
          have hX0 := Lib.hid (((HOK.out.sets k hlt).1.1 _ (List.getElem_mem hlt2)).1)
          by_cases hgt : (k : Int) < (row g k)[t]
          · generalize (row g k)[t] = X at hcx hgt hsucc hX0
            obtain ⟨vals, hv1, hv2, hv3⟩ := hown
            have hll : (edN g.length (ofG g) k ++ edT g k t).length < 1000000000 := by rw [List.length_append]; omega
            have HV3 := Lib.hid hv3
            have HV1 := Lib.hid hv1
            clear hnums hv3 hv1 hte
            generalize hq : (edN g.length (ofG g) k ++ edT g k t).length = q at hll hv2
            go_wp2_with (at_builtin; refine wpList_app1s ty_rows64 rfl rfl rfl (hv2.alloc (.cells #[.int .i64 k, .int .i64 X] 2)) (by rw [size_alloc]; rfl) rfl hll (by rw [size_alloc]; omega) ?_; intro b7 c8 w7 hown7 hg7 _)
            go_roundw
            case rel =>
              have ha := below_alloc wr (.cells #[.int .i64 k, .int .i64 X] 2)
              have hrow : Nums (wr.alloc (.cells #[.int .i64 k, .int .i64 X] 2)) 2 .i64 (.slice (some ⟨wr.heap.size, 0, none⟩) 2 2) [((k : Nat) : Int), ((X.toNat : Nat) : Int)] := by
                rw [Int.toNat_of_nonneg hX0.out]
                exact Nums.of_owns (World.ownsRow_lit (size := 1) wr #[.int .i64 k, .int .i64 X] 2 (Nat.le_refl wr.heap.size) (by decide) rfl) rfl (by decide)
              subst hq
              refine ⟨t + 1, by omega, by go_num, ?_, below_grown (hbel.alloc hsz _) (hv2.alloc _) hg7 (by omega) (by rw [size_alloc]; omega), (Hbx.out.keep ha).below (below_grown (Below.refl (w.heap.size + 1) _) (hv2.alloc _) hg7 (Nat.le_refl _) (by rw [size_alloc]; omega)) (by omega)⟩
              rw [hsucc.out, if_pos hgt, ← List.append_assoc]
              exact PrsO.snoc (e := (k, X.toNat)) HV1.out (hv2.alloc _) (fun j hj => (HV3.out j hj).below ha) hown7 hg7 hrow
            case measure => simp [intOf]; omega
          · have Hown := Lib.hid hown
            generalize (row g k)[t] = X at hcx hgt hsucc hX0
            clear hown hnums
            go_wp2
            go_roundw
            case rel => exact ⟨t + 1, by omega, by go_num, by rw [hsucc.out, if_neg hgt]; exact Hown.out, hbel, Hbx.out⟩
            case measure => simp [intOf]; omega
        · obtain rfl : t = (row g k).length := by omega
          have Hown := Lib.hid hown
          clear hown hnums
          go_wp2
          go_roundw
          case rel =>
            refine ⟨k + 1, by omega, by go_num, ?_, hbel, Hbx.out⟩
            rw [edN_succ, ← HEND.out]
            exact Hown.out
          case measure => simp [intOf]; omega
    · obtain rfl : k = g.length := by omega
      go_wp2_with (go_at_call 132; refine (l1Size_any _ g _ (HG.out.below hbel)).mono ?_; rintro e w4 ⟨rfl, hb4⟩)
      go_ret
      exact ⟨_, rfl, (Hown.out.below hb4).base (by omega), hbel.trans (hb4.mono hsz)⟩

set_option maxHeartbeats 1000000 in
theorem specEdgesOf_any (v : Value) (g : List (List Int)) (hok : GOk g) (w : World) (hg : Gr w v g) :
    Calls Tryd.prog 80 #[v] w fun e w' => ∃ u : Value, e = .returned u ∧ PrsO w' w.heap.size u (edN g.length (ofG g) g.length) ∧ Below w.heap.size w w' := by
  have hg0 := hg
  obtain ⟨u, rfl, hr⟩ := hg
  obtain ⟨p, c, rfl, _⟩ := hr.shape
  have hbA := Lib.hid (below_alloc w (.cells #[.slice p g.length c] 29))
  have HG := Lib.hid (hg0.below hbA.out)
  have BX := Lib.hid (Box.new w (.slice p g.length c) 29)
  have HOK := Lib.hid hok
  have hd := Lib.hid (dec_true hok)
  clear hr hg0 hok
  go_enter Tryd.func80, Tryd.ntmps80
  go_wp2_with (first
    | (go_at_call 73; refine (specGraphOk_any _ g _ HG.out).mono ?_; rintro e w2 ⟨he, hb2⟩; rw [hd.out] at he; subst he; have hcx := (BX.out.keep hb2).cell)
    | (go_at_call 140; refine (l1EdgesC_any _ g HOK.out _ (HG.out.below hb2)).mono ?_; rintro e w3 ⟨u3, rfl, hp3, hb3⟩))
  go_ret
  have h1 := hbA.out.trans (hb2.mono hbA.out.size)
  exact ⟨_, rfl, hp3.base h1.size, h1.trans (hb3.mono h1.size)⟩

end Go.Proofs.YtkppbmfliejnmaaDoor

/- Walks: the program's edges, how many, an edge; the reference's edges, in whatever graph. -/
namespace Go.Proofs.YtkppbmfliejnmaaDoor
open Go.RowKit

theorem PrsO.rwsE {w : World} {base : Nat} {ov : Value} {l : List (Nat × Nat)} (h : PrsO w base ov l) (hl : l.length ≤ 1000000) : Rws w 33 2 ov (prsL l) := by
  obtain ⟨vals, h1, h2, h3⟩ := h
  have e : (prsL l).length = l.length := by simp [prsL]
  exact ⟨vals, by rw [e]; exact h1, by rw [e]; exact Sl.of_owns h2 (by omega), fun j hj => h3 j (by rw [← e]; exact hj)⟩

set_option maxRecDepth 100000 in
set_option maxHeartbeats 1000000 in
theorem implEdgesOf_any (v : Value) (g : List (List Int)) (w : World) (hg : Gr w v g) :
    Calls Tryd.prog 171 #[v] w fun e w' => ∃ u : Value, e = .returned u ∧ ((GOk g ∧ PrsO w' w.heap.size u (edN g.length (ofG g) g.length)) ∨ (¬ GOk g ∧ u = .slice none 0 0)) ∧ Below w.heap.size w w' := by
  have hg0 := hg
  obtain ⟨u, rfl, hr⟩ := hg
  obtain ⟨p, c, rfl, _⟩ := hr.shape
  have hbA := Lib.hid (below_alloc w (.cells #[.slice p g.length c] 29))
  have HG := Lib.hid (hg0.below hbA.out)
  have BX := Lib.hid (Box.new w (.slice p g.length c) 29)
  clear hr hg0
  by_cases hok : GOk g
  · have HD := Lib.hid (dec_true hok)
    have HOK := Lib.hid hok
    clear hok
    go_enter Tryd.func171, Tryd.ntmps171
    go_wp2_with (first
      | (go_at_call 87; refine (implGraphOk_any _ g _ HG.out).mono ?_; rintro e w2 ⟨he, hb2⟩; rw [HD.out] at he; subst he; have hbx := (BX.out.keep hb2).cell)
      | (go_at_call 217; refine (edgesC_any _ g HOK.out _ (HG.out.below hb2)).mono ?_; rintro e w3 ⟨u3, rfl, hp3, hb3⟩; obtain ⟨p3, c3, rfl⟩ := hp3.shape; have HP3 := Lib.hid hp3; clear hp3))
    go_ret
    exact ⟨_, rfl, .inl ⟨HOK.out, HP3.out.base (Nat.le_trans hbA.out.size hb2.size)⟩, (hbA.out.trans (hb2.mono hbA.out.size)).trans (hb3.mono (Nat.le_trans hbA.out.size hb2.size))⟩
  · have HD := Lib.hid (dec_false hok)
    have HOK := Lib.hid hok
    clear hok
    go_enter Tryd.func171, Tryd.ntmps171
    go_wp2_with (go_at_call 87; refine (implGraphOk_any _ g _ HG.out).mono ?_; rintro e w2 ⟨he, hb2⟩; rw [HD.out] at he; subst he)
    go_ret
    exact ⟨_, rfl, .inr ⟨HOK.out, rfl⟩, hbA.out.trans (hb2.mono hbA.out.size)⟩

/-- How many edges a graph has; none where it is not right. -/
noncomputable def manE (g : List (List Int)) : Nat := if dec (GOk g) = true then (edN g.length (ofG g) g.length).length else 0
theorem manE_yes {g : List (List Int)} (h : GOk g) : manE g = (edN g.length (ofG g) g.length).length := by unfold manE; rw [if_pos (dec_true h)]
theorem manE_no {g : List (List Int)} (h : ¬ GOk g) : manE g = 0 := by unfold manE; rw [if_neg (by rw [dec_false h]; decide)]
set_option maxRecDepth 100000 in
set_option maxHeartbeats 1000000 in
theorem implManyE_any (v : Value) (g : List (List Int)) (w : World) (hg : Gr w v g) :
    Calls Tryd.prog 76 #[v] w fun e w' => e = .returned (.int .i64 (manE g : Int)) ∧ Below w.heap.size w w' := by
  have hg0 := hg
  obtain ⟨u, rfl, hr⟩ := hg
  obtain ⟨p, c, rfl, _⟩ := hr.shape
  have hbA := Lib.hid (below_alloc w (.cells #[.slice p g.length c] 29))
  have HG := Lib.hid (hg0.below hbA.out)
  have BX := Lib.hid (Box.new w (.slice p g.length c) 29)
  have E : Hid (∀ (w : World), Gr w (.agg #[.slice p g.length c]) g → Calls Tryd.prog 171 #[.agg #[.slice p g.length c]] w fun e w' => ∃ p c, e = .returned (.slice p (manE g) c) ∧ Below w.heap.size w w') := Lib.hid (fun w hg => by
    refine (implEdgesOf_any _ g w hg).mono ?_
    rintro e w2 ⟨u, rfl, h | ⟨h, rfl⟩, hb⟩
    · obtain ⟨q, d, rfl⟩ := h.2.shape
      exact ⟨q, d, by rw [manE_yes h.1], hb⟩
    · exact ⟨none, 0, by rw [manE_no h], hb⟩)
  clear hr hg0
  go_enter Tryd.func76, Tryd.ntmps76
  go_wp2_with (go_at_call 171; refine (E.out _ HG.out).mono ?_; rintro e w2 ⟨p2, c2, rfl, hb2⟩)
  go_ret
  exact ⟨rfl, hbA.out.trans (hb2.mono hbA.out.size)⟩

set_option maxRecDepth 100000 in
set_option maxHeartbeats 1000000 in
theorem specEdgesE_any (v : Value) (g : List (List Int)) (w : World) (hg : Gr w v g) :
    Calls Tryd.prog 80 #[v] w fun e w' => ∃ (u : Value) (b : Nat), e = .returned u ∧ ((GOk g ∧ PrsO w' b u (edN g.length (ofG g) g.length)) ∨ (¬ GOk g ∧ PrsO w' b u [])) ∧ Below w.heap.size w w' := by
  by_cases hok : GOk g
  · refine (specEdgesOf_any v g hok w hg).mono ?_
    rintro e w2 ⟨u, rfl, hp, hb⟩
    exact ⟨u, _, rfl, .inl ⟨hok, hp⟩, hb⟩
  · have hg0 := hg
    obtain ⟨u, rfl, hr⟩ := hg
    obtain ⟨p, c, rfl, _⟩ := hr.shape
    have hbA := Lib.hid (below_alloc w (.cells #[.slice p g.length c] 29))
    have HG := Lib.hid (hg0.below hbA.out)
    have HD := Lib.hid (dec_false hok)
    have HOK := Lib.hid hok
    clear hr hg0 hok
    go_enter Tryd.func80, Tryd.ntmps80
    go_wp2_with (go_at_call 73; refine (specGraphOk_any _ g _ HG.out).mono ?_; rintro e w2 ⟨he, hb2⟩; rw [HD.out] at he; subst he)
    go_ret
    exact ⟨_, w2.heap.size, rfl, .inr ⟨HOK.out, PrsO.nil w2 _ (Nat.le_refl _)⟩, (hbA.out.trans (hb2.mono hbA.out.size)).alloc (Nat.le_trans hbA.out.size hb2.size) _⟩

set_option maxRecDepth 100000 in
set_option maxHeartbeats 1000000 in
theorem isVertexE_any (v : Value) (g : List (List Int)) (x : Int) (hok : GOk g) (w : World) (hg : Gr w v g) :
    Calls Tryd.prog 121 #[v, .int .i64 x] w fun e w' => e = .returned (.bool (dec (0 ≤ x ∧ x < g.length))) ∧ Below w.heap.size w w' := by
  have hg0 := hg
  obtain ⟨u, rfl, hr⟩ := hg
  obtain ⟨p, c, rfl, _⟩ := hr.shape
  have hbA := Lib.hid (below_alloc w (.cells #[.slice p g.length c] 29))
  have HG := Lib.hid (hg0.below hbA.out)
  have BX := Lib.hid (Box.new w (.slice p g.length c) 29)
  have HD := Lib.hid (dec_true hok)
  have h16 := hok.le
  have hwr : IntKind.i64.wrap ((g.length : Int) - 1) = (g.length : Int) - 1 := by rw [IntKind.wrap_i64]; omega
  have HC : Hid (dec (0 ≤ x ∧ x ≤ (g.length : Int) - 1) = dec (0 ≤ x ∧ x < g.length)) := Lib.hid (dec_congr (by omega))
  clear hr hg0 hok
  go_enter Tryd.func121, Tryd.ntmps121
  go_wp2_with (first
    | (go_at_call 87; refine (implGraphOk_any _ g _ HG.out).mono ?_; rintro e w2 ⟨he, hb2⟩; rw [HD.out] at he; subst he; have hbx := (BX.out.keep hb2).cell)
    | (go_at_call 137; refine (inRange_any _ _ _ _).mono ?_; rintro e w3 ⟨he, hw⟩; rw [HC.out] at he; subst he; subst hw))
  go_ret
  exact ⟨rfl, hbA.out.trans (hb2.mono hbA.out.size)⟩

set_option maxRecDepth 100000 in
set_option maxHeartbeats 1000000 in
theorem implEdgeIn_yes (v : Value) (g : List (List Int)) (y z : Int) (a b : Nat) (hy : y = a) (hz : z = b) (hok : GOk g) (ha : a < g.length) (hE : ofG g a b = true) (w : World) (hg : Gr w v g) :
    Calls Tryd.prog 41 #[v, .int .i64 y, .int .i64 z] w fun e w' => e = .returned (.bool true) ∧ Below w.heap.size w w' := by
  subst hy; subst hz
  have hg0 := hg
  obtain ⟨u, rfl, hr⟩ := hg
  obtain ⟨p, c, rfl, _⟩ := hr.shape
  have hbA := Lib.hid (below_alloc w (.cells #[.slice p g.length c] 29))
  have HG := Lib.hid (hg0.below hbA.out)
  have HR := Lib.hid (hr.below hbA.out)
  have BX := Lib.hid (Box.new w (.slice p g.length c) 29)
  have HDA := Lib.hid (dec_true (show (0 : Int) ≤ (a : Int) ∧ (a : Int) < g.length from ⟨by omega, by omega⟩))
  have HDE := Lib.hid (dec_true (show (b : Int) ∈ row g a by simpa [ofG] using hE))
  have HOK := Lib.hid hok
  obtain ⟨rb, ro, rp, rc, rfl, _, _⟩ := HR.out.get ha
  have HRow : Hid (∀ wz, Below w.heap.size w wz → ∃ rp rc, wz.cell? ⟨rb, ro + a, none⟩ = some (.slice rp (row g a).length rc) ∧ Nums wz 2 .i64 (.slice rp (row g a).length rc) (row g a)) := Lib.hid fun wz hbz => by
    obtain ⟨b', o', rp', rc', e1, h1, h2⟩ := (hr.below hbz).get ha
    cases e1
    exact ⟨rp', rc', h1, h2⟩
  clear hr hg0 hok hE
  go_enter Tryd.func41, Tryd.ntmps41
  go_wp2_with (first
    | (go_at_call 122; refine (contains_any _ (row g a) (b : Int) _ (hrn.below (below_dN (Below.refl _ _) 1))).mono ?_; rintro e w3 ⟨he, hw⟩; rw [HDE.out] at he; subst he; subst hw)
    | (go_at_call 122; refine (contains_any _ (row g a) (b : Int) _ hrn).mono ?_; rintro e w3 ⟨he, hw⟩; rw [HDE.out] at he; subst he; subst hw)
    | (go_at_call 121; refine (isVertexE_any _ g (a : Int) HOK.out _ HG.out).mono ?_; rintro e w2 ⟨he, hb2⟩; rw [HDA.out] at he; subst he; have hbx := (BX.out.keep hb2).cell; have hbw := hbA.out.trans (hb2.mono hbA.out.size); obtain ⟨rp2, rc2, hrc, hrn⟩ := HRow.out _ hbw))
  go_ret
  exact ⟨rfl, hbw⟩

end Go.Proofs.YtkppbmfliejnmaaDoor
