/- Walks: the reference's edges. -/
import Derived.Test.YtfokiijcpkhllaaDoorFdQ31
import Derived.Test.YtfokiijcpkhllaaDoorFdQ4
import Derived.Test.YtfokiijcpkhllaaDoorFdQ40
namespace Go.Proofs.YtfokiijcpkhllaaDoor
open Go.RowKit

set_option maxRecDepth 100000 in
set_option maxHeartbeats 4000000 in
theorem l1EdgesC_any (v : Value) (g : List (List Int)) (hok : GOk g) (w : World) (hg : Gr w v g) :
    Calls Tryd.prog 130 #[v] w fun e w' => ∃ u : Value, e = .returned u ∧ PrsO w' w.heap.size u (edN g.length (ofG g) g.length) ∧ Below w.heap.size w w' := by
  have hg0 := hg
  obtain ⟨u, rfl, hr⟩ := hg
  obtain ⟨p, c, rfl, _⟩ := hr.shape
  have h16 := hok.le
  have hbA := below_alloc w (.cells #[.slice p g.length c] 29)
  have HB := Lib.hid hbA
  have BX := Lib.hid ((Box.new w (.slice p g.length c) 29).alloc (.cells #[] 32))
  have HG := Lib.hid hg0
  have H2 := Lib.hid (gOk_row_le hok)
  have HOK := Lib.hid hok
  have HR := Lib.hid hr
  have HC : Hid (∀ k, k ≤ g.length → (edN g.length (ofG g) k).length ≤ 256) := Lib.hid fun k hk => by
    have := edN_length g.length (ofG g) k
    have : k * g.length ≤ 16 * 16 := Nat.mul_le_mul (by omega) h16
    omega
  clear hr hg0 hbA hok
  go_enter Tryd.func130, Tryd.ntmps130
  go_wp2
  go_loopw [3, 4] (fun u i wr => ∃ k : Nat, k ≤ g.length ∧ i = .int .i64 k ∧ PrsO wr (w.heap.size + 1) u (edN g.length (ofG g) k) ∧ Below w.heap.size w wr ∧ Box wr w.heap.size 29 (.slice p g.length c))
    (fun _ i _ => g.length - (intOf i).toNat)
  case atStart => exact ⟨0, Nat.zero_le _, rfl, by have := PrsO.nil (w.alloc (.cells #[.slice p g.length c] 29)) (w.heap.size + 1) (by rw [size_alloc]; omega); rw [size_alloc] at this; exact this, HB.out.alloc HB.out.size _, BX.out⟩
  case round =>
    obtain ⟨k, hk, rfl, hown, hbel, hbx⟩ := hrel
    have hc := hbx.cell
    have Hbx := Lib.hid hbx
    obtain ⟨outp, outc, rfl⟩ := hown.shape
    have Hown := Lib.hid hown
    have hsz := hbel.size
    clear hown hbx
    by_cases hlt : k < g.length
    · obtain ⟨b, o, rp, rc, rfl, hcell, hnums⟩ := (HR.out.below hbel).get hlt
      change wr.cell? _ = some (.slice rp (row g k).length rc) at hcell
      have Hnums2 : Hid (Nums wr 2 .i64 (.slice rp (row g k).length rc) (row g k)) := Lib.hid hnums
      have hlen2 := H2.out k hlt
      have hck := HC.out k hk
      have HEND := Lib.hid (edT_end HOK.out hlt)
      clear hnums hcell
      go_wp2_with (go_at_call 60; refine (l1Size_any _ g _ (HG.out.below hbel)).mono ?_; rintro e w4 ⟨rfl, hb4⟩)
      have START : Hid (PrsO w4 (w.heap.size + 1) (.slice outp (edN g.length (ofG g) k).length outc) (edN g.length (ofG g) k ++ edT g k 0)) := Lib.hid (by
        have : edT g k 0 = [] := by simp [edT]
        rw [this, List.append_nil]; exact Hown.out.below hb4)
      have HBEL := Lib.hid (hbel.trans (hb4.mono hsz))
      have HBX4 := Lib.hid (Hbx.out.keep hb4)
      go_loopw [3, 5] (fun u i wx => ∃ t : Nat, t ≤ (row g k).length ∧ i = .int .i64 t ∧ PrsO wx (w.heap.size + 1) u (edN g.length (ofG g) k ++ edT g k t) ∧ Below w.heap.size w wx ∧ Box wx w.heap.size 29 (.slice (some ⟨b, o, none⟩) g.length c))
        (fun _ i _ => (row g k).length - (intOf i).toNat)
      case atStart => exact ⟨0, Nat.zero_le _, rfl, START.out, HBEL.out, HBX4.out⟩
      case round =>
        clear START Hown hbel HBEL hsz Hnums2 hc Hbx HBX4 hb4
        obtain ⟨t, ht, rfl, hown, hbel, hbx⟩ := hrel
        have hc := hbx.cell
        have Hbx := Lib.hid hbx
        obtain ⟨_, _, rp, rc, e, hcell, hnums⟩ := (HR.out.below hbel).get hlt
        simp only [Option.some.injEq, Addr.mk.injEq, and_true] at e
        obtain ⟨rfl, rfl⟩ := e
        replace hcell : wr.cell? _ = some (.slice rp (row g k).length rc) := hcell
        replace hnums : Nums wr 2 .i64 (.slice rp (row g k).length rc) (row g k) := hnums
        have hsz := hbel.size
        obtain ⟨outp, outc, rfl⟩ := hown.shape
        clear hbx
        have hte := edT_len g k t
        by_cases hlt2 : t < (row g k).length
        · obtain ⟨rb, ro, rfl, hcx⟩ := hnums.get hlt2
          have hsucc := Lib.hid (edT_succ (g := g) (k := k) hlt2)
          have hX0 := Lib.hid (((HOK.out.sets k hlt).1.1 _ (List.getElem_mem hlt2)).1)
          by_cases hgt : (k : Int) < (row g k)[t]
          · generalize (row g k)[t] = X at hcx hgt hsucc hX0
            obtain ⟨vals, hv1, hv2, hv3⟩ := hown
            have hll : (edN g.length (ofG g) k ++ edT g k t).length < 1000000000 := by rw [List.length_append]; omega
            have HV3 := Lib.hid hv3
            have HV1 := Lib.hid hv1
            clear hnums hv3 hv1 hte
            generalize hq : (edN g.length (ofG g) k ++ edT g k t).length = q at hll hv2
            go_wp2_with (at_builtin; refine wpList_app1s ty_rows64 rfl rfl rfl (hv2.alloc (.cells #[.int .i64 k, .int .i64 X] 2)) (by rw [size_alloc]; rfl) rfl hll (by rw [size_alloc]; omega) ?_; intro b7 c8 w7 hown7 hg7 _)
            go_roundw
            case rel =>
              have ha := below_alloc wr (.cells #[.int .i64 k, .int .i64 X] 2)
              have hrow : Nums (wr.alloc (.cells #[.int .i64 k, .int .i64 X] 2)) 2 .i64 (.slice (some ⟨wr.heap.size, 0, none⟩) 2 2) [((k : Nat) : Int), ((X.toNat : Nat) : Int)] := by
                rw [Int.toNat_of_nonneg hX0.out]
                exact Nums.of_owns (World.ownsRow_lit (size := 1) wr #[.int .i64 k, .int .i64 X] 2 (Nat.le_refl wr.heap.size) (by decide) rfl) rfl (by decide)
              subst hq
              refine ⟨t + 1, by omega, by go_num, ?_, below_grown (hbel.alloc hsz _) (hv2.alloc _) hg7 (by omega) (by rw [size_alloc]; omega), (Hbx.out.keep ha).below (below_grown (Below.refl (w.heap.size + 1) _) (hv2.alloc _) hg7 (Nat.le_refl _) (by rw [size_alloc]; omega)) (by omega)⟩
              rw [hsucc.out, if_pos hgt, ← List.append_assoc]
              exact PrsO.snoc (e := (k, X.toNat)) HV1.out (hv2.alloc _) (fun j hj => (HV3.out j hj).below ha) hown7 hg7 hrow
            case measure => simp [intOf]; omega
          · have Hown := Lib.hid hown
            generalize (row g k)[t] = X at hcx hgt hsucc hX0
            clear hown hnums
            go_wp2
            go_roundw
            case rel => exact ⟨t + 1, by omega, by go_num, by rw [hsucc.out, if_neg hgt]; exact Hown.out, hbel, Hbx.out⟩
            case measure => simp [intOf]; omega
        · obtain rfl : t = (row g k).length := by omega
          have Hown := Lib.hid hown
          clear hown hnums
          go_wp2
          go_roundw
          case rel =>
            refine ⟨k + 1, by omega, by go_num, ?_, hbel, Hbx.out⟩
            rw [edN_succ, ← HEND.out]
            exact Hown.out
          case measure => simp [intOf]; omega
    · obtain rfl : k = g.length := by omega
      go_wp2_with (go_at_call 60; refine (l1Size_any _ g _ (HG.out.below hbel)).mono ?_; rintro e w4 ⟨rfl, hb4⟩)
      go_ret
      exact ⟨_, rfl, (Hown.out.below hb4).base (by omega), hbel.trans (hb4.mono hsz)⟩

set_option maxHeartbeats 1000000 in
theorem specEdgesOf_any (v : Value) (g : List (List Int)) (hok : GOk g) (w : World) (hg : Gr w v g) :
    Calls Tryd.prog 90 #[v] w fun e w' => ∃ u : Value, e = .returned u ∧ PrsO w' w.heap.size u (edN g.length (ofG g) g.length) ∧ Below w.heap.size w w' := by
  have hg0 := hg
  obtain ⟨u, rfl, hr⟩ := hg
  obtain ⟨p, c, rfl, _⟩ := hr.shape
  have hbA := Lib.hid (below_alloc w (.cells #[.slice p g.length c] 29))
  have HG := Lib.hid (hg0.below hbA.out)
  have BX := Lib.hid (Box.new w (.slice p g.length c) 29)
  have HOK := Lib.hid hok
  have hd := Lib.hid (dec_true hok)
  clear hr hg0 hok
  go_enter Tryd.func90, Tryd.ntmps90
  go_wp2_with (first
    | (go_at_call 50; refine (specGraphOk_any _ g _ HG.out).mono ?_; rintro e w2 ⟨he, hb2⟩; rw [hd.out] at he; subst he; have hcx := (BX.out.keep hb2).cell)
    | (go_at_call 130; refine (l1EdgesC_any _ g HOK.out _ (HG.out.below hb2)).mono ?_; rintro e w3 ⟨u3, rfl, hp3, hb3⟩))
  go_ret
  have h1 := hbA.out.trans (hb2.mono hbA.out.size)
  exact ⟨_, rfl, hp3.base h1.size, h1.trans (hb3.mono h1.size)⟩

end Go.Proofs.YtfokiijcpkhllaaDoor

/- Walk: the reference's least edge between two sets. -/
namespace Go.Proofs.YtfokiijcpkhllaaDoor
open Go.RowKit

set_option maxRecDepth 100000 in
set_option maxHeartbeats 4000000 in
theorem l21Between_any (v av bv : Value) (g : List (List Int)) (A B : List Int) (hok : GOk g) (w : World) (hg : Gr w v g) (hna : Nums w 2 .i64 av A) (hnb : Nums w 2 .i64 bv B) :
    Calls Tryd.prog 91 #[v, av, bv] w fun e w' => ∃ ov, e = .returned (.tuple #[ov, .bool (dec (∃ e ∈ edN g.length (ofG g) g.length, BtwE A B e))]) ∧ Below w.heap.size w w' := by
  have hg0 := hg
  obtain ⟨gu, rfl, hr⟩ := hg
  obtain ⟨p, c, rfl, _⟩ := hr.shape
  obtain ⟨ap, ac, rfl, _⟩ := id hna.shape
  obtain ⟨bp, bc, rfl, _⟩ := id hnb.shape
  have hbA := Lib.hid (below_alloc w (.cells #[.slice p g.length c] 29))
  have HG := Lib.hid (hg0.below hbA.out)
  have HNA := Lib.hid (hna.below hbA.out)
  have HNB := Lib.hid (hnb.below hbA.out)
  have HOK := Lib.hid hok
  have HLE : Hid ((edN g.length (ofG g) g.length).length ≤ 256) := Lib.hid (by
    have h16 := hok.le
    have := edN_length g.length (ofG g) g.length
    have : g.length * g.length ≤ 16 * 16 := Nat.mul_le_mul h16 h16
    omega)
  obtain ⟨el, hel⟩ : ∃ el, el = edN g.length (ofG g) g.length := ⟨_, rfl⟩
  rw [← hel] at HLE ⊢
  have EDG : Hid (∀ (wz : World) (vz : Value), Gr wz vz g → Calls Tryd.prog 90 #[vz] wz fun e w' => ∃ u : Value, e = .returned u ∧ PrsO w' wz.heap.size u el ∧ Below wz.heap.size wz w') := Lib.hid (fun wz vz hz => by rw [hel]; exact specEdgesOf_any _ g HOK.out _ hz)
  clear hr hg0 hna hnb hok hel
  go_enter Tryd.func91, Tryd.ntmps91
  go_wp2_with (go_at_call 90; refine (EDG.out _ _ HG.out).mono ?_; rintro e w2 ⟨u2, rfl, hp2, hb2⟩)
  have HB2 := Lib.hid (hbA.out.trans (hb2.mono hbA.out.size))
  have HNA2 := Lib.hid (HNA.out.below hb2)
  have HNB2 := Lib.hid (HNB.out.below hb2)
  have HP2 := Lib.hid hp2
  obtain ⟨ep, ec, rfl⟩ := hp2.shape
  have hel256 := HLE.out
  clear hb2 hp2 HNA HNB HG
  go_loopw [9] (fun iv wr => ∃ i : Nat, i ≤ el.length ∧ iv = .int .i64 i ∧ Hid (∀ e ∈ el.take i, ¬ BtwE A B e) ∧ w2 = wr) (fun iv _ => el.length - (intOf iv).toNat)
  case atStart => exact ⟨0, Nat.zero_le _, rfl, Lib.hid (fun e he => by simp at he), rfl⟩
  case round =>
    obtain ⟨i, hi, rfl, HNO, rfl⟩ := hrel
    by_cases hlt : i < el.length
    · obtain ⟨eb, eo, rp, rc, rfl, hce, hne⟩ := HP2.out.get hlt
      have htk := Lib.hid (take_snoc' el i hlt)
      have HMEM := Lib.hid (List.getElem_mem hlt)
      obtain ⟨⟨a, b⟩, hab⟩ : ∃ e : Nat × Nat, e = el[i] := ⟨_, rfl⟩
      rw [← hab] at hne htk HMEM
      simp only at hne
      obtain ⟨rb, ro, rfl, hc0⟩ := hne.get (k := 0) (by simp)
      obtain ⟨_, _, e1, hc1⟩ := hne.get (k := 1) (by simp)
      cases e1
      simp only [List.getElem_cons_zero, List.getElem_cons_succ, Nat.add_zero] at hc0 hc1
      clear hne hab
      go_upto_region 7 with fail
      go_cut [49] (fun s49 wx => s49 = .bool (dec (BtwE A B (a, b))) ∧ w2 = wx)
      case first =>
        by_cases h1 : (a : Int) ∈ A
        · have d1 := Lib.hid (dec_true h1)
          by_cases h2 : (b : Int) ∈ B
          · have d2 := Lib.hid (dec_true h2)
            have DB := Lib.hid (dec_true (show BtwE A B (a, b) from .inl ⟨h1, h2⟩))
            clear h1 h2
            go_wp2_with (go_at_call 66; refine (l1Has_any _ _ _ _ (by first | exact HNA2.out | exact HNB2.out)).mono ?_; rintro e w4 ⟨he, hw⟩; (first | rw [d1.out] at he | rw [d2.out] at he); subst he; subst hw)
            go_meet
            exact ⟨by rw [DB.out], rfl⟩
          · have d2 := Lib.hid (dec_false h2)
            by_cases h3 : (b : Int) ∈ A
            · have d3 := Lib.hid (dec_true h3)
              by_cases h4 : (a : Int) ∈ B
              · have d4 := Lib.hid (dec_true h4)
                have DB := Lib.hid (dec_true (show BtwE A B (a, b) from .inr ⟨h3, h4⟩))
                clear h1 h2 h3 h4
                go_wp2_with (go_at_call 66; refine (l1Has_any _ _ _ _ (by first | exact HNA2.out | exact HNB2.out)).mono ?_; rintro e w4 ⟨he, hw⟩; (first | rw [d1.out] at he | rw [d2.out] at he | rw [d3.out] at he | rw [d4.out] at he); subst he; subst hw)
                go_meet
                exact ⟨by rw [DB.out], rfl⟩
              · have d4 := Lib.hid (dec_false h4)
                have DB := Lib.hid (dec_false (show ¬ BtwE A B (a, b) from fun h => h.elim (fun k => h2 k.2) fun k => h4 k.2))
                clear h1 h2 h3 h4
                go_wp2_with (go_at_call 66; refine (l1Has_any _ _ _ _ (by first | exact HNA2.out | exact HNB2.out)).mono ?_; rintro e w4 ⟨he, hw⟩; (first | rw [d1.out] at he | rw [d2.out] at he | rw [d3.out] at he | rw [d4.out] at he); subst he; subst hw)
                go_meet
                exact ⟨by rw [DB.out], rfl⟩
            · have d3 := Lib.hid (dec_false h3)
              have DB := Lib.hid (dec_false (show ¬ BtwE A B (a, b) from fun h => h.elim (fun k => h2 k.2) fun k => h3 k.1))
              clear h1 h2 h3
              go_wp2_with (go_at_call 66; refine (l1Has_any _ _ _ _ (by first | exact HNA2.out | exact HNB2.out)).mono ?_; rintro e w4 ⟨he, hw⟩; (first | rw [d1.out] at he | rw [d2.out] at he | rw [d3.out] at he); subst he; subst hw)
              go_meet
              exact ⟨by rw [DB.out], rfl⟩
        · have d1 := Lib.hid (dec_false h1)
          by_cases h3 : (b : Int) ∈ A
          · have d3 := Lib.hid (dec_true h3)
            by_cases h4 : (a : Int) ∈ B
            · have d4 := Lib.hid (dec_true h4)
              have DB := Lib.hid (dec_true (show BtwE A B (a, b) from .inr ⟨h3, h4⟩))
              clear h1 h3 h4
              go_wp2_with (go_at_call 66; refine (l1Has_any _ _ _ _ (by first | exact HNA2.out | exact HNB2.out)).mono ?_; rintro e w4 ⟨he, hw⟩; (first | rw [d1.out] at he | rw [d3.out] at he | rw [d4.out] at he); subst he; subst hw)
              go_meet
              exact ⟨by rw [DB.out], rfl⟩
            · have d4 := Lib.hid (dec_false h4)
              have DB := Lib.hid (dec_false (show ¬ BtwE A B (a, b) from fun h => h.elim (fun k => h1 k.1) fun k => h4 k.2))
              clear h1 h3 h4
              go_wp2_with (go_at_call 66; refine (l1Has_any _ _ _ _ (by first | exact HNA2.out | exact HNB2.out)).mono ?_; rintro e w4 ⟨he, hw⟩; (first | rw [d1.out] at he | rw [d3.out] at he | rw [d4.out] at he); subst he; subst hw)
              go_meet
              exact ⟨by rw [DB.out], rfl⟩
          · have d3 := Lib.hid (dec_false h3)
            have DB := Lib.hid (dec_false (show ¬ BtwE A B (a, b) from fun h => h.elim (fun k => h1 k.1) fun k => h3 k.1))
            clear h1 h3
            go_wp2_with (go_at_call 66; refine (l1Has_any _ _ _ _ (by first | exact HNA2.out | exact HNB2.out)).mono ?_; rintro e w4 ⟨he, hw⟩; (first | rw [d1.out] at he | rw [d3.out] at he); subst he; subst hw)
            go_meet
            exact ⟨by rw [DB.out], rfl⟩
      case rest =>
      obtain ⟨rfl, rfl⟩ := hcut
      clear hc0 hc1
      by_cases hbt : BtwE A B (a, b)
      · have HY := Lib.hid (dec_true (show ∃ e ∈ el, BtwE A B e from ⟨(a, b), HMEM.out, hbt⟩))
        rw [dec_true hbt]
        clear hbt
        go_wp2_with fail
        go_ret2
        exact ⟨_, by rw [HY.out]; rfl, HB2.out⟩
      · have HBT := Lib.hid hbt
        rw [dec_false hbt]
        clear hbt
        go_wp2_with fail
        go_roundw
        case rel => exact ⟨i + 1, by omega, by go_num, Lib.hid (fun e he => by
          rw [htk.out] at he
          rcases List.mem_append.1 he with h | h
          · exact HNO.out e h
          · obtain rfl : e = (a, b) := by simpa using h
            exact HBT.out), by first | trivial | rfl⟩
        case measure => simp [intOf]; omega
    · obtain rfl : i = el.length := by omega
      have HN := Lib.hid (dec_false (show ¬ ∃ e ∈ el, BtwE A B e from fun ⟨e, h1, h2⟩ => HNO.out e (by rw [List.take_length]; exact h1) h2))
      go_wp2_with fail
      go_ret2
      exact ⟨_, by rw [HN.out]; rfl, HB2.out.alloc HB2.out.size _⟩

end Go.Proofs.YtfokiijcpkhllaaDoor
