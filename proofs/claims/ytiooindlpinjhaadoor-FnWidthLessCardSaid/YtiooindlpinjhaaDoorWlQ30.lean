/- Walks: the reference's edges. -/
import Derived.Test.YtiooindlpinjhaaDoorWlQ14
import Derived.Test.YtiooindlpinjhaaDoorWlQ4
import Derived.Test.YtiooindlpinjhaaDoorWlQ11
import Derived.Test.YtiooindlpinjhaaDoorWlQ17
import Derived.Test.YtiooindlpinjhaaDoorWlQ29
import Derived.Test.YtiooindlpinjhaaDoorWlQ12
import Derived.Test.YtiooindlpinjhaaDoorWlQ13
namespace Go.Proofs.YtiooindlpinjhaaDoor
open Go.RowKit

set_option maxRecDepth 100000 in
set_option maxHeartbeats 4000000 in
theorem l1EdgesC_any (v : Value) (g : List (List Int)) (hok : GOk g) (w : World) (hg : Gr w v g) :
    Calls Tryd.prog 161 #[v] w fun e w' => ∃ u : Value, e = .returned u ∧ PrsO w' w.heap.size u (edN g.length (ofG g) g.length) ∧ Below w.heap.size w w' := by
  have hg0 := hg
  obtain ⟨u, rfl, hr⟩ := hg
  obtain ⟨p, c, rfl, _⟩ := hr.shape
  have h16 := hok.le
  have hbA := below_alloc w (.cells #[.slice p g.length c] 28)
  have HB := Lib.hid hbA
  have BX := Lib.hid ((Box.new w (.slice p g.length c) 28).alloc (.cells #[] 26))
  have HG := Lib.hid hg0
  have H2 := Lib.hid (gOk_row_le hok)
  have HOK := Lib.hid hok
  have HR := Lib.hid hr
  have HC : Hid (∀ k, k ≤ g.length → (edN g.length (ofG g) k).length ≤ 256) := Lib.hid fun k hk => by
    have := edN_length g.length (ofG g) k
    have : k * g.length ≤ 16 * 16 := Nat.mul_le_mul (by omega) h16
    omega
  clear hr hg0 hbA hok
  go_enter Tryd.func161, Tryd.ntmps161
  go_wp2
  go_loopw [3, 4] (fun u i wr => ∃ k : Nat, k ≤ g.length ∧ i = .int .i64 k ∧ PrsO wr (w.heap.size + 1) u (edN g.length (ofG g) k) ∧ Below w.heap.size w wr ∧ Box wr w.heap.size 28 (.slice p g.length c))
    (fun _ i _ => g.length - (intOf i).toNat)
  case atStart => exact ⟨0, Nat.zero_le _, rfl, by have := PrsO.nil (w.alloc (.cells #[.slice p g.length c] 28)) (w.heap.size + 1) (by rw [size_alloc]; omega); rw [size_alloc] at this; exact this, HB.out.alloc HB.out.size _, BX.out⟩
  case round =>
    obtain ⟨k, hk, rfl, hown, hbel, hbx⟩ := hrel
    have hc := hbx.cell
    have Hbx := Lib.hid hbx
    obtain ⟨outp, outc, rfl⟩ := hown.shape
    have Hown := Lib.hid hown
    have hsz := hbel.size
    clear hown hbx
    by_cases hlt : k < g.length
    · obtain ⟨b, o, rp, rc, rfl, hcell, hnums⟩ := (HR.out.below hbel).get hlt
      change wr.cell? _ = some (.slice rp (row g k).length rc) at hcell
      have Hnums2 : Hid (Nums wr 2 .i64 (.slice rp (row g k).length rc) (row g k)) := Lib.hid hnums
      have hlen2 := H2.out k hlt
      have hck := HC.out k hk
      have HEND := Lib.hid (edT_end HOK.out hlt)
      clear hnums hcell
      go_wp2_with (go_at_call 75; refine (l1Size_any _ g _ (HG.out.below hbel)).mono ?_; rintro e w4 ⟨rfl, hb4⟩)
      have START : Hid (PrsO w4 (w.heap.size + 1) (.slice outp (edN g.length (ofG g) k).length outc) (edN g.length (ofG g) k ++ edT g k 0)) := Lib.hid (by
        have : edT g k 0 = [] := by simp [edT]
        rw [this, List.append_nil]; exact Hown.out.below hb4)
      have HBEL := Lib.hid (hbel.trans (hb4.mono hsz))
      have HBX4 := Lib.hid (Hbx.out.keep hb4)
      go_loopw [3, 5] (fun u i wx => ∃ t : Nat, t ≤ (row g k).length ∧ i = .int .i64 t ∧ PrsO wx (w.heap.size + 1) u (edN g.length (ofG g) k ++ edT g k t) ∧ Below w.heap.size w wx ∧ Box wx w.heap.size 28 (.slice (some ⟨b, o, none⟩) g.length c))
        (fun _ i _ => (row g k).length - (intOf i).toNat)
      case atStart => exact ⟨0, Nat.zero_le _, rfl, START.out, HBEL.out, HBX4.out⟩
      case round =>
        clear START Hown hbel HBEL hsz Hnums2 hc Hbx HBX4 hb4
        obtain ⟨t, ht, rfl, hown, hbel, hbx⟩ := hrel
        have hc := hbx.cell
        have Hbx := Lib.hid hbx
        obtain ⟨_, _, rp, rc, e, hcell, hnums⟩ := (HR.out.below hbel).get hlt
        simp only [Option.some.injEq, Addr.mk.injEq, and_true] at e
        obtain ⟨rfl, rfl⟩ := e
        replace hcell : wr.cell? _ = some (.slice rp (row g k).length rc) := hcell
        replace hnums : Nums wr 2 .i64 (.slice rp (row g k).length rc) (row g k) := hnums
        have hsz := hbel.size
        obtain ⟨outp, outc, rfl⟩ := hown.shape
        clear hbx
        have hte := edT_len g k t
        by_cases hlt2 : t < (row g k).length
        · obtain ⟨rb, ro, rfl, hcx⟩ := hnums.get hlt2
          have hsucc := Lib.hid (edT_succ (g := g) (k := k) hlt2)
          have hX0 := Lib.hid (((HOK.out.sets k hlt).1.1 _ (List.getElem_mem hlt2)).1)
          by_cases hgt : (k : Int) < (row g k)[t]
          · generalize (row g k)[t] = X at hcx hgt hsucc hX0
            obtain ⟨vals, hv1, hv2, hv3⟩ := hown
            have hll : (edN g.length (ofG g) k ++ edT g k t).length < 1000000000 := by rw [List.length_append]; omega
            have HV3 := Lib.hid hv3
            have HV1 := Lib.hid hv1
            clear hnums hv3 hv1 hte
            generalize hq : (edN g.length (ofG g) k ++ edT g k t).length = q at hll hv2
            go_wp2_with (at_builtin; refine wpList_app1s ty_rows64 rfl rfl rfl (hv2.alloc (.cells #[.int .i64 k, .int .i64 X] 2)) (by rw [size_alloc]; rfl) rfl hll (by rw [size_alloc]; omega) ?_; intro b7 c8 w7 hown7 hg7 _)
            go_roundw
            case rel =>
              have ha := below_alloc wr (.cells #[.int .i64 k, .int .i64 X] 2)
              have hrow : Nums (wr.alloc (.cells #[.int .i64 k, .int .i64 X] 2)) 2 .i64 (.slice (some ⟨wr.heap.size, 0, none⟩) 2 2) [((k : Nat) : Int), ((X.toNat : Nat) : Int)] := by
                rw [Int.toNat_of_nonneg hX0.out]
                exact Nums.of_owns (World.ownsRow_lit (size := 1) wr #[.int .i64 k, .int .i64 X] 2 (Nat.le_refl wr.heap.size) (by decide) rfl) rfl (by decide)
              subst hq
              refine ⟨t + 1, by omega, by go_num, ?_, below_grown (hbel.alloc hsz _) (hv2.alloc _) hg7 (by omega) (by rw [size_alloc]; omega), (Hbx.out.keep ha).below (below_grown (Below.refl (w.heap.size + 1) _) (hv2.alloc _) hg7 (Nat.le_refl _) (by rw [size_alloc]; omega)) (by omega)⟩
              rw [hsucc.out, if_pos hgt, ← List.append_assoc]
              exact PrsO.snoc (e := (k, X.toNat)) HV1.out (hv2.alloc _) (fun j hj => (HV3.out j hj).below ha) hown7 hg7 hrow
            case measure => simp [intOf]; omega
          · have Hown := Lib.hid hown
            generalize (row g k)[t] = X at hcx hgt hsucc hX0
            clear hown hnums
            go_wp2
            go_roundw
            case rel => exact ⟨t + 1, by omega, by go_num, by rw [hsucc.out, if_neg hgt]; exact Hown.out, hbel, Hbx.out⟩
            case measure => simp [intOf]; omega
        · obtain rfl : t = (row g k).length := by omega
          have Hown := Lib.hid hown
          clear hown hnums
          go_wp2
          go_roundw
          case rel =>
            refine ⟨k + 1, by omega, by go_num, ?_, hbel, Hbx.out⟩
            rw [edN_succ, ← HEND.out]
            exact Hown.out
          case measure => simp [intOf]; omega
    · obtain rfl : k = g.length := by omega
      go_wp2_with (go_at_call 75; refine (l1Size_any _ g _ (HG.out.below hbel)).mono ?_; rintro e w4 ⟨rfl, hb4⟩)
      go_ret
      exact ⟨_, rfl, (Hown.out.below hb4).base (by omega), hbel.trans (hb4.mono hsz)⟩

set_option maxHeartbeats 1000000 in
theorem specEdgesOf_any (v : Value) (g : List (List Int)) (hok : GOk g) (w : World) (hg : Gr w v g) :
    Calls Tryd.prog 146 #[v] w fun e w' => ∃ u : Value, e = .returned u ∧ PrsO w' w.heap.size u (edN g.length (ofG g) g.length) ∧ Below w.heap.size w w' := by
  have hg0 := hg
  obtain ⟨u, rfl, hr⟩ := hg
  obtain ⟨p, c, rfl, _⟩ := hr.shape
  have hbA := Lib.hid (below_alloc w (.cells #[.slice p g.length c] 28))
  have HG := Lib.hid (hg0.below hbA.out)
  have BX := Lib.hid (Box.new w (.slice p g.length c) 28)
  have HOK := Lib.hid hok
  have hd := Lib.hid (dec_true hok)
  clear hr hg0 hok
  go_enter Tryd.func146, Tryd.ntmps146
  go_wp2_with (first
    | (go_at_call 45; refine (specGraphOk_any _ g _ HG.out).mono ?_; rintro e w2 ⟨he, hb2⟩; rw [hd.out] at he; subst he; have hcx := (BX.out.keep hb2).cell)
    | (go_at_call 161; refine (l1EdgesC_any _ g HOK.out _ (HG.out.below hb2)).mono ?_; rintro e w3 ⟨u3, rfl, hp3, hb3⟩))
  go_ret
  have h1 := hbA.out.trans (hb2.mono hbA.out.size)
  exact ⟨_, rfl, hp3.base h1.size, h1.trans (hb3.mono h1.size)⟩

end Go.Proofs.YtiooindlpinjhaaDoor

/- Walks: the program's edges, how many, an edge; the reference's edges, in whatever graph. -/
namespace Go.Proofs.YtiooindlpinjhaaDoor
open Go.RowKit

theorem PrsO.rwsE {w : World} {base : Nat} {ov : Value} {l : List (Nat × Nat)} (h : PrsO w base ov l) (hl : l.length ≤ 1000000) : Rws w 26 2 ov (prsL l) := by
  obtain ⟨vals, h1, h2, h3⟩ := h
  have e : (prsL l).length = l.length := by simp [prsL]
  exact ⟨vals, by rw [e]; exact h1, by rw [e]; exact Sl.of_owns h2 (by omega), fun j hj => h3 j (by rw [← e]; exact hj)⟩

/-- How many edges a graph has; none where it is not right. -/
noncomputable def manE (g : List (List Int)) : Nat := if dec (GOk g) = true then (edN g.length (ofG g) g.length).length else 0
theorem manE_yes {g : List (List Int)} (h : GOk g) : manE g = (edN g.length (ofG g) g.length).length := by unfold manE; rw [if_pos (dec_true h)]
theorem manE_no {g : List (List Int)} (h : ¬ GOk g) : manE g = 0 := by unfold manE; rw [if_neg (by rw [dec_false h]; decide)]
set_option maxRecDepth 100000 in
set_option maxHeartbeats 1000000 in
theorem specEdgesE_any (v : Value) (g : List (List Int)) (w : World) (hg : Gr w v g) :
    Calls Tryd.prog 146 #[v] w fun e w' => ∃ (u : Value) (b : Nat), e = .returned u ∧ ((GOk g ∧ PrsO w' b u (edN g.length (ofG g) g.length)) ∨ (¬ GOk g ∧ PrsO w' b u [])) ∧ Below w.heap.size w w' := by
  by_cases hok : GOk g
  · refine (specEdgesOf_any v g hok w hg).mono ?_
    rintro e w2 ⟨u, rfl, hp, hb⟩
    exact ⟨u, _, rfl, .inl ⟨hok, hp⟩, hb⟩
  · have hg0 := hg
    obtain ⟨u, rfl, hr⟩ := hg
    obtain ⟨p, c, rfl, _⟩ := hr.shape
    have hbA := Lib.hid (below_alloc w (.cells #[.slice p g.length c] 28))
    have HG := Lib.hid (hg0.below hbA.out)
    have HD := Lib.hid (dec_false hok)
    have HOK := Lib.hid hok
    clear hr hg0 hok
    go_enter Tryd.func146, Tryd.ntmps146
    go_wp2_with (go_at_call 45; refine (specGraphOk_any _ g _ HG.out).mono ?_; rintro e w2 ⟨he, hb2⟩; rw [HD.out] at he; subst he)
    go_ret
    exact ⟨_, w2.heap.size, rfl, .inr ⟨HOK.out, PrsO.nil w2 _ (Nat.le_refl _)⟩, (hbA.out.trans (hb2.mono hbA.out.size)).alloc (Nat.le_trans hbA.out.size hb2.size) _⟩

set_option maxRecDepth 100000 in
set_option maxHeartbeats 1000000 in
theorem isVertexE_any (v : Value) (g : List (List Int)) (x : Int) (hok : GOk g) (w : World) (hg : Gr w v g) :
    Calls Tryd.prog 110 #[v, .int .i64 x] w fun e w' => e = .returned (.bool (dec (0 ≤ x ∧ x < g.length))) ∧ Below w.heap.size w w' := by
  have hg0 := hg
  obtain ⟨u, rfl, hr⟩ := hg
  obtain ⟨p, c, rfl, _⟩ := hr.shape
  have hbA := Lib.hid (below_alloc w (.cells #[.slice p g.length c] 28))
  have HG := Lib.hid (hg0.below hbA.out)
  have BX := Lib.hid (Box.new w (.slice p g.length c) 28)
  have HD := Lib.hid (dec_true hok)
  have h16 := hok.le
  have hwr : IntKind.i64.wrap ((g.length : Int) - 1) = (g.length : Int) - 1 := by rw [IntKind.wrap_i64]; omega
  have HC : Hid (dec (0 ≤ x ∧ x ≤ (g.length : Int) - 1) = dec (0 ≤ x ∧ x < g.length)) := Lib.hid (dec_congr (by omega))
  clear hr hg0 hok
  go_enter Tryd.func110, Tryd.ntmps110
  go_wp2_with (first
    | (go_at_call 53; refine (implGraphOk_any _ g _ HG.out).mono ?_; rintro e w2 ⟨he, hb2⟩; rw [HD.out] at he; subst he; have hbx := (BX.out.keep hb2).cell)
    | (go_at_call 153; refine (inRange_any _ _ _ _).mono ?_; rintro e w3 ⟨he, hw⟩; rw [HC.out] at he; subst he; subst hw))
  go_ret
  exact ⟨rfl, hbA.out.trans (hb2.mono hbA.out.size)⟩

set_option maxRecDepth 100000 in
set_option maxHeartbeats 1000000 in
theorem implEdgeIn_yes (v : Value) (g : List (List Int)) (y z : Int) (a b : Nat) (hy : y = a) (hz : z = b) (hok : GOk g) (ha : a < g.length) (hE : ofG g a b = true) (w : World) (hg : Gr w v g) :
    Calls Tryd.prog 131 #[v, .int .i64 y, .int .i64 z] w fun e w' => e = .returned (.bool true) ∧ Below w.heap.size w w' := by
  subst hy; subst hz
  have hg0 := hg
  obtain ⟨u, rfl, hr⟩ := hg
  obtain ⟨p, c, rfl, _⟩ := hr.shape
  have hbA := Lib.hid (below_alloc w (.cells #[.slice p g.length c] 28))
  have HG := Lib.hid (hg0.below hbA.out)
  have HR := Lib.hid (hr.below hbA.out)
  have BX := Lib.hid (Box.new w (.slice p g.length c) 28)
  have HDA := Lib.hid (dec_true (show (0 : Int) ≤ (a : Int) ∧ (a : Int) < g.length from ⟨by omega, by omega⟩))
  have HDE := Lib.hid (dec_true (show (b : Int) ∈ row g a by simpa [ofG] using hE))
  have HOK := Lib.hid hok
  obtain ⟨rb, ro, rp, rc, rfl, _, _⟩ := HR.out.get ha
  have HRow : Hid (∀ wz, Below w.heap.size w wz → ∃ rp rc, wz.cell? ⟨rb, ro + a, none⟩ = some (.slice rp (row g a).length rc) ∧ Nums wz 2 .i64 (.slice rp (row g a).length rc) (row g a)) := Lib.hid fun wz hbz => by
    obtain ⟨b', o', rp', rc', e1, h1, h2⟩ := (hr.below hbz).get ha
    cases e1
    exact ⟨rp', rc', h1, h2⟩
  clear hr hg0 hok hE
  go_enter Tryd.func131, Tryd.ntmps131
  go_wp2_with (first
    | (go_at_call 122; refine (contains_any _ (row g a) (b : Int) _ (hrn.below (below_dN (Below.refl _ _) 1))).mono ?_; rintro e w3 ⟨he, hw⟩; rw [HDE.out] at he; subst he; subst hw)
    | (go_at_call 122; refine (contains_any _ (row g a) (b : Int) _ hrn).mono ?_; rintro e w3 ⟨he, hw⟩; rw [HDE.out] at he; subst he; subst hw)
    | (go_at_call 110; refine (isVertexE_any _ g (a : Int) HOK.out _ HG.out).mono ?_; rintro e w2 ⟨he, hb2⟩; rw [HDA.out] at he; subst he; have hbx := (BX.out.keep hb2).cell; have hbw := hbA.out.trans (hb2.mono hbA.out.size); obtain ⟨rp2, rc2, hrc, hrn⟩ := HRow.out _ hbw))
  go_ret
  exact ⟨rfl, hbw⟩

end Go.Proofs.YtiooindlpinjhaaDoor

/- Walks: an edge of whatever graph, the program's contraction. -/
namespace Go.Proofs.YtiooindlpinjhaaDoor
open Go.RowKit

/-- y and z are joined in g, which is right. -/
def EdgP (g : List (List Int)) (y z : Int) : Prop := GOk g ∧ (0 ≤ y ∧ y < g.length) ∧ z ∈ row g y.toNat
def VtxP (g : List (List Int)) (y : Int) : Prop := GOk g ∧ 0 ≤ y ∧ y < g.length
theorem EdgP.nat {g : List (List Int)} {y z : Int} (h : EdgP g y z) : ∃ a b : Nat, y = a ∧ z = b ∧ a < g.length ∧ b < g.length ∧ a ≠ b ∧ ofG g a b = true := by
  obtain ⟨hg, ⟨h1, h2⟩, h3⟩ := h
  have h4 := (hg.sets y.toNat (by omega)).1.1 z h3
  have h5 := (hg.sets y.toNat (by omega)).2
  refine ⟨y.toNat, z.toNat, by omega, by omega, by omega, by omega, fun e => h5 ?_, ?_⟩
  · rw [show ((y.toNat : Nat) : Int) = z by omega]; exact h3
  · simp only [ofG, decide_eq_true_eq]
    rw [show ((z.toNat : Nat) : Int) = z by omega]; exact h3

set_option maxRecDepth 100000 in
set_option maxHeartbeats 1000000 in
theorem isVertexC_any (v : Value) (g : List (List Int)) (x : Int) (w : World) (hg : Gr w v g) :
    Calls Tryd.prog 110 #[v, .int .i64 x] w fun e w' => e = .returned (.bool (dec (VtxP g x))) ∧ Below w.heap.size w w' := by
  by_cases hok : GOk g
  · refine (isVertexE_any v g x hok w hg).mono ?_
    rintro e w2 ⟨rfl, hb⟩
    exact ⟨ret_bool (dec_congr ⟨fun h => ⟨hok, h⟩, fun h => h.2⟩), hb⟩
  · have hg0 := hg
    obtain ⟨u, rfl, hr⟩ := hg
    obtain ⟨p, c, rfl, _⟩ := hr.shape
    have hbA := Lib.hid (below_alloc w (.cells #[.slice p g.length c] 28))
    have HG := Lib.hid (hg0.below hbA.out)
    have HD := Lib.hid (dec_false hok)
    have HN := Lib.hid (dec_false (show ¬ VtxP g x from fun h => hok h.1))
    clear hr hg0 hok
    go_enter Tryd.func110, Tryd.ntmps110
    go_wp2_with (go_at_call 53; refine (implGraphOk_any _ g _ HG.out).mono ?_; rintro e w2 ⟨he, hb2⟩; rw [HD.out] at he; subst he)
    go_ret
    exact ⟨ret_bool HN.out.symm, hbA.out.trans (hb2.mono hbA.out.size)⟩

set_option maxRecDepth 100000 in
set_option maxHeartbeats 1000000 in
theorem implEdgeInC_any (v : Value) (g : List (List Int)) (y z : Int) (w : World) (hg : Gr w v g) :
    Calls Tryd.prog 131 #[v, .int .i64 y, .int .i64 z] w fun e w' => e = .returned (.bool (dec (EdgP g y z))) ∧ Below w.heap.size w w' := by
  have hg0 := hg
  obtain ⟨u, rfl, hr⟩ := hg
  obtain ⟨p, c, rfl, _⟩ := hr.shape
  have hbA := Lib.hid (below_alloc w (.cells #[.slice p g.length c] 28))
  have HG := Lib.hid (hg0.below hbA.out)
  have HR := Lib.hid (hr.below hbA.out)
  have BX := Lib.hid (Box.new w (.slice p g.length c) 28)
  by_cases hx : VtxP g y
  · obtain ⟨a, ha⟩ : ∃ a : Nat, y = a := ⟨y.toNat, by have := hx.2; omega⟩
    subst ha
    have hal : a < g.length := by have := hx.2; omega
    have HE : Hid (dec (EdgP g (a : Int) z) = dec (z ∈ row g a)) := Lib.hid (dec_congr (by
      unfold EdgP
      rw [Int.toNat_natCast]
      exact ⟨fun h => h.2.2, fun h => ⟨hx.1, hx.2, h⟩⟩))
    have HX := Lib.hid (dec_true hx)
    obtain ⟨rb, ro, rp, rc, rfl, _, _⟩ := HR.out.get hal
    have HRow : Hid (∀ wz, Below w.heap.size w wz → ∃ rp rc, wz.cell? ⟨rb, ro + a, none⟩ = some (.slice rp (row g a).length rc) ∧ Nums wz 2 .i64 (.slice rp (row g a).length rc) (row g a)) := Lib.hid fun wz hbz => by
      obtain ⟨b', o', rp', rc', e1, h1, h2⟩ := (hr.below hbz).get hal
      cases e1
      exact ⟨rp', rc', h1, h2⟩
    obtain ⟨d, hd⟩ : ∃ d, dec (z ∈ row g a) = d := ⟨_, rfl⟩
    have HD := Lib.hid hd
    clear hr hg0 hx hd
    go_enter Tryd.func131, Tryd.ntmps131
    go_wp2_with (first
      | (go_at_call 122; refine (contains_any _ (row g a) z _ (hrn.below (below_dN (Below.refl _ _) 1))).mono ?_; rintro e w3 ⟨he, hw⟩; rw [HD.out] at he; subst he; subst hw)
      | (go_at_call 122; refine (contains_any _ (row g a) z _ hrn).mono ?_; rintro e w3 ⟨he, hw⟩; rw [HD.out] at he; subst he; subst hw)
      | (go_at_call 110; refine (isVertexC_any _ g (a : Int) _ HG.out).mono ?_; rintro e w2 ⟨he, hb2⟩; rw [HX.out] at he; subst he; have hbx := (BX.out.keep hb2).cell; have hbw := hbA.out.trans (hb2.mono hbA.out.size); obtain ⟨rp2, rc2, hrc, hrn⟩ := HRow.out _ hbw))
    go_ret
    exact ⟨ret_bool (by rw [HE.out, HD.out]), hbw⟩
  · have HX := Lib.hid (dec_false hx)
    have HE := Lib.hid (dec_false (show ¬ EdgP g y z from fun h => hx ⟨h.1, h.2.1⟩))
    clear hr hg0 hx
    go_enter Tryd.func131, Tryd.ntmps131
    go_wp2_with (go_at_call 110; refine (isVertexC_any _ g y _ HG.out).mono ?_; rintro e w2 ⟨he, hb2⟩; rw [HX.out] at he; subst he)
    go_ret
    exact ⟨ret_bool HE.out.symm, hbA.out.trans (hb2.mono hbA.out.size)⟩

set_option maxRecDepth 100000 in
theorem l1ThereC_any (v : Value) (g : List (List Int)) (x : Int) (w : World) (hg : Gr w v g) (hn : g.length ≤ 1000000000) :
    Calls Tryd.prog 98 #[v, .int .i64 x] w fun e w' => e = .returned (.bool (dec (0 ≤ x ∧ x < g.length))) ∧ Below w.heap.size w w' := by
  have hg0 := hg
  obtain ⟨u, rfl, hr⟩ := hg
  obtain ⟨p, c, rfl, _⟩ := hr.shape
  have hbA := Lib.hid (below_alloc w (.cells #[.slice p g.length c] 28))
  have HG := Lib.hid (hg0.below hbA.out)
  clear hr hg0
  go_enter Tryd.func98, Tryd.ntmps98
  go_wp2_with (first
    | (go_at_call 116; refine (l1In_any _ _ _ _).mono ?_; rintro e w3 ⟨rfl, rfl⟩)
    | (go_at_call 75; refine (l1Size_any _ g _ HG.out).mono ?_; rintro e w2 ⟨rfl, hb2⟩))
  go_ret
  exact ⟨ret_bool (dec_congr (by omega)), hbA.out.trans (hb2.mono hbA.out.size)⟩

set_option maxRecDepth 100000 in
set_option maxHeartbeats 2000000 in
theorem specEdgeInC_any (v : Value) (g : List (List Int)) (y z : Int) (w : World) (hg : Gr w v g) :
    Calls Tryd.prog 35 #[v, .int .i64 y, .int .i64 z] w fun e w' => e = .returned (.bool (dec (EdgP g y z))) ∧ Below w.heap.size w w' := by
  have hg0 := hg
  obtain ⟨u, rfl, hr⟩ := hg
  obtain ⟨p, c, rfl, _, _, hn9⟩ := hr.shape
  have hbA := Lib.hid (below_alloc w (.cells #[.slice p g.length c] 28))
  have HG := Lib.hid (hg0.below hbA.out)
  have BX := Lib.hid (Box.new w (.slice p g.length c) 28)
  clear hr hg0
  by_cases hok : GOk g
  case neg =>
    have HD := Lib.hid (dec_false hok)
    have HE := Lib.hid (dec_false (show ¬ EdgP g y z from fun h => hok h.1))
    clear hok
    go_enter Tryd.func35, Tryd.ntmps35
    go_wp2_with (go_at_call 45; refine (specGraphOk_any _ g _ HG.out).mono ?_; rintro e w2 ⟨he, hb2⟩; rw [HD.out] at he; subst he)
    go_ret
    exact ⟨ret_bool HE.out.symm, hbA.out.trans (hb2.mono hbA.out.size)⟩
  have HD := Lib.hid (dec_true hok)
  by_cases hy : 0 ≤ y ∧ y < g.length
  case neg =>
    have HDY := Lib.hid (dec_false hy)
    have HE := Lib.hid (dec_false (show ¬ EdgP g y z from fun h => hy h.2.1))
    clear hok hy
    go_enter Tryd.func35, Tryd.ntmps35
    go_wp2_with (first
      | (go_at_call 45; refine (specGraphOk_any _ g _ HG.out).mono ?_; rintro e w2 ⟨he, hb2⟩; rw [HD.out] at he; subst he; have c2 := (BX.out.keep hb2).cell)
      | (go_at_call 98; refine (l1ThereC_any _ g y _ (HG.out.below hb2) hn9).mono ?_; rintro e w3 ⟨he, hb3⟩; rw [HDY.out] at he; subst he))
    go_ret
    exact ⟨ret_bool HE.out.symm, (hbA.out.trans (hb2.mono hbA.out.size)).trans (hb3.mono (Nat.le_trans hbA.out.size hb2.size))⟩
  obtain ⟨a, ha⟩ : ∃ a : Nat, y = a := ⟨y.toNat, by omega⟩
  subst ha
  have hal : a < g.length := by omega
  have HDY := Lib.hid (dec_true hy)
  by_cases hz : 0 ≤ z ∧ z < g.length
  case neg =>
    have HDZ := Lib.hid (dec_false hz)
    have HE := Lib.hid (dec_false (show ¬ EdgP g (a : Int) z from fun h => hz (by
      have := (hok.sets a hal).1.1 z (by have := h.2.2; rwa [Int.toNat_natCast] at this)
      omega)))
    clear hok hy hz
    go_enter Tryd.func35, Tryd.ntmps35
    go_wp2_with (first
      | (go_at_call 45; refine (specGraphOk_any _ g _ HG.out).mono ?_; rintro e w2 ⟨he, hb2⟩; rw [HD.out] at he; subst he; have c2 := (BX.out.keep hb2).cell)
      | (have X3 := hb3; go_at_call 98; refine (l1ThereC_any _ g z _ ((HG.out.below hb2).below X3) hn9).mono ?_; rintro e w4 ⟨he, hb4⟩; rw [HDZ.out] at he; subst he)
      | (go_at_call 98; refine (l1ThereC_any _ g (a : Int) _ (HG.out.below hb2) hn9).mono ?_; rintro e w3 ⟨he, hb3⟩; rw [HDY.out] at he; subst he; have c3 := hb3.at' c2))
    go_ret
    exact ⟨ret_bool HE.out.symm, ((hbA.out.trans (hb2.mono hbA.out.size)).trans (hb3.mono (Nat.le_trans hbA.out.size hb2.size))).trans (hb4.mono (Nat.le_trans (Nat.le_trans hbA.out.size hb2.size) hb3.size))⟩
  obtain ⟨b, hb⟩ : ∃ b : Nat, z = b := ⟨z.toNat, by omega⟩
  subst hb
  have HDZ := Lib.hid (dec_true hz)
  have HE : Hid (dec (EdgP g (a : Int) (b : Int)) = dec ((b : Int) ∈ row g a)) := Lib.hid (dec_congr (by
    unfold EdgP
    rw [Int.toNat_natCast]
    exact ⟨fun h => h.2.2, fun h => ⟨hok, hy, h⟩⟩))
  obtain ⟨d, hd⟩ : ∃ d, dec ((b : Int) ∈ row g a) = d := ⟨_, rfl⟩
  have HDD := Lib.hid hd
  clear hok hy hz hd
  go_enter Tryd.func35, Tryd.ntmps35
  go_wp2_with (first
    | (go_at_call 45; refine (specGraphOk_any _ g _ HG.out).mono ?_; rintro e w2 ⟨he, hb2⟩; rw [HD.out] at he; subst he; have c2 := (BX.out.keep hb2).cell)
    | (have X3 := hb3; go_at_call 98; refine (l1ThereC_any _ g (b : Int) _ ((HG.out.below hb2).below X3) hn9).mono ?_; rintro e w4 ⟨he, hb4⟩; rw [HDZ.out] at he; subst he; have c4 := hb4.at' c3)
    | (go_at_call 98; refine (l1ThereC_any _ g (a : Int) _ (HG.out.below hb2) hn9).mono ?_; rintro e w3 ⟨he, hb3⟩; rw [HDY.out] at he; subst he; have c3 := hb3.at' c2)
    | (go_at_call 99; refine (l1Edge_any _ g _ _ a b rfl rfl hal _ (((HG.out.below hb2).below hb3).below hb4)).mono ?_; rintro e w5 ⟨he, hb5⟩; rw [HDD.out] at he; subst he))
  go_ret
  exact ⟨ret_bool (by rw [HE.out, HDD.out]), (((hbA.out.trans (hb2.mono hbA.out.size)).trans (hb3.mono (Nat.le_trans hbA.out.size hb2.size))).trans (hb4.mono (Nat.le_trans (Nat.le_trans hbA.out.size hb2.size) hb3.size))).trans (hb5.mono (Nat.le_trans (Nat.le_trans (Nat.le_trans hbA.out.size hb2.size) hb3.size) hb4.size))⟩

end Go.Proofs.YtiooindlpinjhaaDoor

/- Walk: the program's test of a small graph. -/
namespace Go.Proofs.YtiooindlpinjhaaDoor
open Go.RowKit

set_option maxRecDepth 100000 in
set_option maxHeartbeats 1000000 in
theorem isSmall_any (v : Value) (g : List (List Int)) (w : World) (hg : Gr w v g) :
    Calls Tryd.prog 88 #[v] w fun e w' => e = .returned (.bool (dec (GOk g ∧ g.length ≤ 8))) ∧ Below w.heap.size w w' := by
  have hg0 := hg
  obtain ⟨u, rfl, hr⟩ := hg
  obtain ⟨p, c, rfl, _, _, _⟩ := hr.shape
  have hbA := Lib.hid (below_alloc w (.cells #[.slice p g.length c] 28))
  have HG := Lib.hid (hg0.below hbA.out)
  have BX := Lib.hid (Box.new w (.slice p g.length c) 28)
  clear hr hg0
  by_cases hok : GOk g
  · have hd := dec_true hok
    have Hok := Lib.hid hok
    clear hok
    have H : dec (GOk g ∧ g.length ≤ 8) = decide (g.length ≤ 8) := by
      by_cases h : g.length ≤ 8
      · rw [dec_true (show GOk g ∧ g.length ≤ 8 from ⟨Hok.out, h⟩)]; simp [h]
      · rw [dec_false (show ¬ (GOk g ∧ g.length ≤ 8) from fun k => h k.2)]; simp [h]
    have HH := Lib.hid H
    clear H
    go_enter Tryd.func88, Tryd.ntmps88
    go_wp2_with (go_at_call 53; refine (implGraphOk_any _ g _ HG.out).mono ?_; rintro e w2 ⟨he, hb2⟩; rw [hd] at he; subst he; have hbx := (BX.out.keep hb2).cell)
    go_ret
    exact ⟨by rw [HH.out]; exact ret_bool (by simp; omega), hbA.out.trans (hb2.mono hbA.out.size)⟩
  · have hd := dec_false hok
    have HH := Lib.hid (dec_false (show ¬ (GOk g ∧ g.length ≤ 8) from fun k => hok k.1))
    clear hok
    go_enter Tryd.func88, Tryd.ntmps88
    go_wp2_with (go_at_call 53; refine (implGraphOk_any _ g _ HG.out).mono ?_; rintro e w2 ⟨he, hb2⟩; rw [hd] at he; subst he)
    go_ret
    exact ⟨by rw [HH.out]; rfl, hbA.out.trans (hb2.mono hbA.out.size)⟩

end Go.Proofs.YtiooindlpinjhaaDoor
