/- Walk: the reference's DistancesKept. -/
import Derived.Test.YtfokiijcpkhllaaDoorDsQ37
import Derived.Test.YtfokiijcpkhllaaDoorDsQ29
import Derived.Test.YtfokiijcpkhllaaDoorDsQ10
import Derived.Test.YtfokiijcpkhllaaDoorDsQ7
namespace Go.Proofs.YtfokiijcpkhllaaDoor
open Go.RowKit

theorem conn_len {E : Nat → Nat → Bool} {L : List Nat} {u : Nat} {T : List Nat} (hL : L = u :: T) : ConnL E L ↔ ¬ (partL E L u).length < L.length := by
  subst hL
  rw [connL_len]
  have hle : (partL E (u :: T) u).length ≤ (u :: T).length := List.length_filter_le _ _
  omega
theorem bits_nilD {l : Nat} (h : l < 65536) : (bitsOf l).length = 0 ↔ l = 0 := by
  constructor
  · intro e
    by_cases h0 : l = 0
    · exact h0
    · have := bitsOf_step l h0 (by omega)
      rw [this] at e
      simp at e
  · rintro rfl; rw [bitsOf_zero]; rfl
theorem inW_bits {t : Nat} (ht : t < 65536) : (fun x => x ∈ bitsOf t) = inW t := by
  funext x
  exact propext (mem_left ht)
theorem inW_range {n : Nat} : (fun x => x ∈ List.range n) = inW (2 ^ n - 1) := by
  rw [inW_all]
  funext x
  exact propext List.mem_range
theorem nums_cell {w : World} {ob o n c : Nat} {D : List Int} (h : Nums w 2 .i64 (.slice (some ⟨ob, o, none⟩) n c) D) {u : Nat} (hu : u < D.length) : w.cell? ⟨ob, o + u, none⟩ = some (.int .i64 (D.getD u 0)) := by
  obtain ⟨b, o', e, hc⟩ := h.get hu
  cases e
  rw [List.getD_eq_getElem?_getD, List.getElem?_eq_getElem hu]
  exact hc
set_option maxRecDepth 100000 in
set_option maxHeartbeats 4000000 in
theorem specDistancesKept_any (v : Value) (g : List (List Int)) (w : World) (hok : GOk g) (h8 : g.length ≤ 8) (hg : Gr w v g) :
    Calls Tryd.prog 13 #[v] w fun e w' => e = .returned (.bool (dec (KG g))) ∧ Below w.heap.size w w' := by
  have hg0 := Lib.hid hg
  obtain ⟨_, rfl, hr⟩ := hg
  obtain ⟨ga, gc, rfl, _⟩ := hr.shape
  obtain ⟨n, hn⟩ : ∃ n, n = g.length := ⟨_, rfl⟩
  have HN := Lib.hid hn
  have hn8 : n ≤ 8 := by omega
  have hn1 : 1 ≤ n := by have := hok.pos; omega
  rw [← hn] at hg0 ⊢
  obtain ⟨w1, hw1⟩ : ∃ w1, w1 = w.alloc (.cells #[.slice ga n gc] 29) := ⟨_, rfl⟩
  have HX : Hid (Box w1 w.heap.size 29 (.slice ga n gc)) := Lib.hid (by rw [hw1]; exact Box.new _ _ _)
  have HB1 : Hid (Below w.heap.size w w1) := Lib.hid (by rw [hw1]; exact below_alloc _ _)
  have HG1 := Lib.hid (hg0.out.below HB1.out)
  have HD := Lib.hid (dec_true hok)
  have HOK := Lib.hid hok
  have HKG := Lib.hid (kg_iff hok)
  have HMG : Hid (matG n (ofG g) = g) := Lib.hid (by rw [hn]; exact matG_ofG hok)
  obtain ⟨KB, hKB⟩ : ∃ KB, KB = dec (KG g) := ⟨_, rfl⟩
  have HKB := Lib.hid hKB
  rw [← hKB]
  have h8i : ¬ (8 : Int) < (n : Int) := by omega
  clear hok hr hg0 hKB hn h8
  go_enter Tryd.func13, Tryd.ntmps13
  go_upto_region 1 with fail
  rw [← hw1]
  clear hw1
  have c1 := HX.out.cell
  go_upto_region 3 with (go_at_call 50; refine (specGraphOk_any _ g _ HG1.out).mono ?_; rintro e w2 ⟨he, hb2⟩; rw [HD.out] at he; subst he; have c2 := hb2.at' c1; have HB2 := Lib.hid (HB1.out.trans (hb2.mono HB1.out.size)); have HX2 := Lib.hid (HX.out.keep hb2); have HG2 := Lib.hid (HG1.out.below hb2); clear hb2)
  clear c1 c2 HX HB1 HG1
  obtain ⟨P, hP⟩ : ∃ P, P = 2 ^ n := ⟨_, rfl⟩
  have hP256 : P ≤ 256 := by rw [hP]; exact Nat.le_trans (Nat.pow_le_pow_right (by decide) hn8) (Nat.le_refl _)
  have hP1 : 1 ≤ P := by rw [hP]; exact Nat.two_pow_pos n
  have HP := Lib.hid hP
  have BIT : Hid (∀ wz, Calls Tryd.prog 51 #[.int .i64 (n : Int)] wz fun e w' => e = .returned (.int .i64 (P : Int)) ∧ wz = w') := Lib.hid fun wz => by rw [hP]; exact l12Bit_any _ n rfl (by omega) wz
  clear hP
  go_wp2_with fail
  go_loopw [3] (fun sv wr => ∃ s : Nat, 1 ≤ s ∧ s ≤ P ∧ sv = .int .i64 (s : Int) ∧ Hid (∀ t, 1 ≤ t → t < s → OkT g t) ∧ Hid (Below w2.heap.size w2 wr)) (fun sv _ => P - (intOf sv).toNat)
  case atStart => exact ⟨1, by omega, hP1, rfl, Lib.hid (fun t h1 h2 => by omega), Lib.hid (Below.refl _ _)⟩
  case round =>
    obtain ⟨s, hs1, hsP, rfl, HS, HB⟩ := hrel
    have HXr := Lib.hid (HX2.out.keep HB.out)
    have cx := HXr.out.cell
    by_cases hlt : s < P
    · have hsi : (s : Int) < (P : Int) := by omega
      have hs16 : s < 65536 := by omega
      have HSN : Hid (∀ i, s.testBit i = true → i < n) := Lib.hid fun i hi => Classical.byContradiction fun hno => by
        have h1 : s < 2 ^ i := Nat.lt_of_lt_of_le (show s < 2 ^ n by rw [← HP.out]; exact hlt) (Nat.pow_le_pow_right (by decide) (by omega))
        rw [Nat.testBit_lt_two_pow h1] at hi; cases hi
      obtain ⟨L, hL⟩ : ∃ L, L = bitsOf s := ⟨_, rfl⟩
      have HLE := Lib.hid hL
      have hL32 : L.length ≤ 32 := by rw [hL]; exact bitsOf_length s
      have HLN : Hid (∀ x ∈ L, x < n) := Lib.hid fun x hx => HSN.out x ((mem_left hs16).1 (by rw [← hL]; exact hx))
      have HLR : Hid (L.Pairwise (· < ·)) := Lib.hid (by rw [hL]; exact bitsOf_rising s)
      have SET : Hid (∀ wz, Calls Tryd.prog 52 #[.int .i64 (s : Int)] wz fun e w' => ∃ ov, e = .returned ov ∧ w'.ownsRow wz.heap.size 2 1 ov L.length ((natInts L).map (Value.int .i64)) ∧ Below wz.heap.size wz w') := Lib.hid fun wz => by rw [hL]; exact l12Set_any _ s rfl hs16 wz
      obtain ⟨u0, T0, hLT⟩ : ∃ u T, L = u :: T := by
        cases hc : L with
        | nil =>
          have h0 := (bits_nilD hs16).1 (by rw [← hL, hc]; rfl)
          omega
        | cons u T => exact ⟨u, T, rfl⟩
      have hu0n : u0 < n := HLN.out u0 (by rw [hLT]; simp)
      have hLpos : 1 ≤ L.length := by rw [hLT]; simp
      have HL0 : Hid (L.getD 0 0 = u0) := Lib.hid (by rw [hLT]; rfl)
      have HU0 : Hid (u0 ∈ L) := Lib.hid (by rw [hLT]; simp)
      have HCL := Lib.hid (conn_len (E := ofG g) hLT)
      have hL16 : L.length ≤ 16 := by
        have := rising_room (T := L) (lo := 0) (n := n) HLR.out (fun x hx => ⟨Nat.zero_le _, HLN.out x hx⟩) (by rw [hLT]; simp)
        omega
      clear hL hLT
      go_upto_region 7 with (first
        | (go_at_call 52; refine (SET.out _).mono ?_; rintro e w4 ⟨ov, rfl, ho4, hb4⟩; have hnm := own_num ho4 (by omega); obtain ⟨lp, lc, rfl, _⟩ := id hnm.shape; have HNM := Lib.hid hnm; rw [natInts_length] at HNM ⊢; have HB4 := Lib.hid (HB.out.trans (hb4.mono HB.out.size)); clear ho4 hb4 hnm)
        | (go_at_call 51; refine (BIT.out _).mono ?_; rintro e w3 ⟨rfl, rfl⟩))
      have HX4 := Lib.hid (HX2.out.keep HB4.out)
      have c4 := HX4.out.cell
      have HG4 := Lib.hid (HG2.out.below HB4.out)
      have HGM4 : Hid (Gr w4 (.agg #[.slice ga n gc]) (matG n (ofG g))) := Lib.hid (by rw [HMG.out]; exact HG4.out)
      obtain ⟨lb, lo, e0, hcl0⟩ := HNM.out.get (k := 0) (by rw [natInts_length]; exact hLpos)
      subst e0
      have hcl0 : w4.cell? ⟨lb, lo, none⟩ = some (.int .i64 (u0 : Int)) := by
        have e : (natInts L)[0]'(by rw [natInts_length]; exact hLpos) = (u0 : Int) := by
          have h1 : (natInts L)[0]'(by rw [natInts_length]; exact hLpos) = ((L[0]'hLpos : Nat) : Int) := by simp [natInts]
          have h2 : L[0]'hLpos = u0 := by rw [← HL0.out, List.getD_eq_getElem?_getD, List.getElem?_eq_getElem hLpos]; rfl
          rw [h1, h2]
        rw [e, Nat.add_zero] at hcl0
        exact hcl0
      obtain ⟨m1, hm1⟩ : ∃ m1, m1 = (partL (ofG g) L u0).length := ⟨_, rfl⟩
      have HM1 := Lib.hid hm1
      have REACH : Hid (∀ wz, Below w4.heap.size w4 wz → Calls Tryd.prog 53 #[.agg #[.slice ga n gc], .slice (some ⟨lb, lo, none⟩) L.length lc, .int .i64 (u0 : Int), .bool false] wz fun e w' => ∃ (p : Option Addr) (c : Nat), e = .returned (.slice p m1 c) ∧ Below wz.heap.size wz w') := Lib.hid fun wz hb => by
        refine (l16Reach_any _ _ n (ofG g) L u0 _ rfl hL16 HLR.out HLN.out HU0.out wz (HGM4.out.below hb) (HNM.out.below hb)).mono ?_
        rintro e w' ⟨r, rfl, hn, hb2⟩
        obtain ⟨p, c, rfl, _⟩ := hn.shape
        rw [natInts_length, ← hm1]
        exact ⟨p, c, rfl, hb2⟩
      have hLi : (0 : Int) < (L.length : Int) := by omega
      clear hm1 cx
      by_cases hc : ConnL (ofG g) L
      case neg =>
        have hmi : (m1 : Int) < (L.length : Int) := by
          have := Classical.byContradiction fun h => hc (HCL.out.2 h)
          rw [← HM1.out] at this
          omega
        have HNX : Hid (∀ t, 1 ≤ t → t < s + 1 → OkT g t) := Lib.hid fun t h1 h2 => by
          by_cases e : t = s
          · subst e; exact fun h => absurd (by rw [HLE.out]; exact h) hc
          · exact HS.out t h1 (by omega)
        clear hc
        go_cut [37] (fun s37 wx => s37 = .bool true ∧ Below w4.heap.size w4 wx)
        case first =>
          obtain ⟨m0, hm0⟩ : ∃ m0, m0 = L.length := ⟨_, rfl⟩
          rw [← hm0] at REACH hmi hLi ⊢
          have hmp : 0 < m0 := by omega
          have hmz : ¬ m0 = 0 := by omega
          have HM0 := Lib.hid hm0
          clear hm0
          go_region_held3 (fun Z => Z.cell? ⟨w.heap.size, 0, none⟩ = some (.slice ga n gc) ∧ Z.cell? ⟨lb, lo, none⟩ = some (.int .i64 (u0 : Int)))
            (first | exact ⟨c4, hcl0⟩ | go_keep | exact ⟨BWA.at' c4, BWA.at' hcl0⟩)
            (first | (go_at_call 53; refine (REACH.out _ (below_dN (Below.refl _ _) 1)).mono ?_; rintro e w5 ⟨p5, c5, rfl, hb5⟩; have BWA : Below w4.heap.size w4 w5 := (below_dN (Below.refl _ _) 1).trans hb5))
          all_goals go_wp2
          all_goals (have hm0 := HM0.out; subst hm0)
          all_goals go_meet
          all_goals exact ⟨by first | rfl | (simp; omega), BWA⟩
        case rest =>
        obtain ⟨rfl, hbz⟩ := hcut
        have HBZ := Lib.hid (HB4.out.trans (hbz.mono HB4.out.size))
        clear hbz
        go_wp2_with fail
        go_roundw
        case rel => exact ⟨s + 1, by omega, by omega, by go_num, HNX, HBZ⟩
        case measure => simp [intOf]; omega
      have hmi : ¬ (m1 : Int) < (L.length : Int) := by
        have := HCL.out.1 hc
        rw [← HM1.out] at this
        omega
      have HC := Lib.hid hc
      clear hc
      go_cut [37] (fun s37 wx => s37 = .bool false ∧ Below w4.heap.size w4 wx)
      case first =>
        obtain ⟨m0, hm0⟩ : ∃ m0, m0 = L.length := ⟨_, rfl⟩
        rw [← hm0] at REACH hmi hLi ⊢
        have hmp : 0 < m0 := by omega
        have hmz : ¬ m0 = 0 := by omega
        have HM0 := Lib.hid hm0
        clear hm0
        go_region_held3 (fun Z => Z.cell? ⟨w.heap.size, 0, none⟩ = some (.slice ga n gc) ∧ Z.cell? ⟨lb, lo, none⟩ = some (.int .i64 (u0 : Int)))
          (first | exact ⟨c4, hcl0⟩ | go_keep | exact ⟨BWA.at' c4, BWA.at' hcl0⟩)
          (first | (go_at_call 53; refine (REACH.out _ (below_dN (Below.refl _ _) 1)).mono ?_; rintro e w5 ⟨p5, c5, rfl, hb5⟩; have BWA : Below w4.heap.size w4 w5 := (below_dN (Below.refl _ _) 1).trans hb5))
        all_goals go_wp2
        all_goals (have hm0 := HM0.out; subst hm0)
        all_goals go_meet
        all_goals exact ⟨by first | rfl | (simp; omega), BWA⟩
      case rest =>
      obtain ⟨rfl, hbz⟩ := hcut
      have HBZ := Lib.hid (HB4.out.trans (hbz.mono HB4.out.size))
      have HNZ := Lib.hid (HNM.out.below hbz)
      obtain ⟨w6, rfl⟩ : ∃ w6, w6 = wc := ⟨_, rfl⟩
      clear hbz c4 hcl0 hmi
      go_wp2_with fail
      go_loopw [5] (fun iv wr => ∃ i : Nat, i ≤ L.length ∧ iv = .int .i64 (i : Int) ∧ Hid (∀ v ∈ L.take i, RowT g s v L) ∧ Hid (Below w6.heap.size w6 wr)) (fun iv _ => L.length - (intOf iv).toNat)
      case atStart => exact ⟨0, Nat.zero_le _, rfl, Lib.hid (fun v hv => by simp at hv), Lib.hid (Below.refl _ _)⟩
      case round =>
        obtain ⟨i, hi, rfl, HR, HBI⟩ := hrel
        by_cases hil : i < L.length
        · obtain ⟨v, hv⟩ : ∃ v : Nat, v = L[i] := ⟨_, rfl⟩
          have hvL : v ∈ L := by rw [hv]; exact List.getElem_mem hil
          have hvn := HLN.out v hvL
          have hvs : s.testBit v = true := (mem_left hs16).1 (by rw [← HLE.out]; exact hvL)
          have hii : (i : Int) < (L.length : Int) := by omega
          have hi0 : (0 : Int) ≤ (i : Int) := by omega
          have HNI := Lib.hid (HNZ.out.below HBI.out)
          have hcl : wr.cell? ⟨lb, lo + i, none⟩ = some (.int .i64 (v : Int)) := by
            have hjl : i < (natInts L).length := by rw [natInts_length]; exact hil
            obtain ⟨_, _, e, hc⟩ := HNI.out.get (k := i) hjl
            cases e
            have hval : (natInts L)[i] = (v : Int) := by rw [hv]; simp [natInts]
            rw [hval] at hc
            exact hc
          have HXI := Lib.hid ((HX2.out.keep HBZ.out).keep HBI.out)
          have cI := HXI.out.cell
          have HGI := Lib.hid ((HG2.out.below HBZ.out).below HBI.out)
          have HVE := Lib.hid hv
          have STEPS : Hid (∀ wz, Below wr.heap.size wr wz → Calls Tryd.prog 54 #[.agg #[.slice ga n gc], .slice (some ⟨lb, lo, none⟩) L.length lc, .int .i64 (v : Int)] wz fun e w' => ∃ (ob oc : Nat) (D : List Int), e = .returned (.slice (some ⟨ob, 0, none⟩) n oc) ∧ Nums w' 2 .i64 (.slice (some ⟨ob, 0, none⟩) n oc) D ∧ D.length = n ∧ (∀ u, u < n → IsD (ofG g) (inW s) v u (D.getD u 0)) ∧ Below wz.heap.size wz w') := Lib.hid fun wz hb => by
            refine (l18Steps_any _ _ g L _ v rfl HOK.out (fun x hx => by rw [← HN.out]; exact HLN.out x hx) hvL wz (HGI.out.below hb) (HNI.out.below hb)).mono ?_
            rintro e w' ⟨ob, oc, D, rfl, _, ho, hd, hD, hb2⟩
            have ebits : (fun x => x ∈ L) = inW s := by rw [HLE.out]; exact inW_bits hs16
            rw [ebits] at hD
            rw [← HN.out] at hd hD ho
            rw [← HN.out]
            exact ⟨ob, oc, D, rfl, Nums.of_owns ho hd.symm (by omega), hd, hD, hb2⟩
          clear hv
          go_upto_region 11 with fail
          go_cut [6] (fun s6 wx => ∃ (ob oc : Nat) (D : List Int), s6 = .slice (some ⟨ob, 0, none⟩) n oc ∧ Nums wx 2 .i64 (.slice (some ⟨ob, 0, none⟩) n oc) D ∧ D.length = n ∧ (∀ u, u < n → IsD (ofG g) (inW s) v u (D.getD u 0)) ∧ Below wr.heap.size wr wx)
          case first =>
            go_region_held3 (fun Z => Z.cell? ⟨w.heap.size, 0, none⟩ = some (.slice ga n gc) ∧ Z.cell? ⟨lb, lo + i, none⟩ = some (.int .i64 (v : Int)))
              (first | exact ⟨cI, hcl⟩ | go_keep | exact ⟨BWA.at' cI, BWA.at' hcl⟩)
              (first | (go_at_call 54; refine (STEPS.out _ (below_dN (Below.refl _ _) 1)).mono ?_; rintro e w7 ⟨o7, c7, D7, rfl, hn7, hd7, hD7, hb7⟩; have HN7 := Lib.hid hn7; have HD7 := Lib.hid hD7; have BWA : Below wr.heap.size wr w7 := (below_dN (Below.refl _ _) 1).trans hb7; clear hn7 hD7))
            all_goals go_wp2
            all_goals go_meet
            all_goals exact ⟨o7, c7, D7, rfl, HN7.out, hd7, HD7.out, BWA⟩
          case rest =>
          obtain ⟨o1, oc1, D1, rfl, hn1', hd1, hD1, hb1⟩ := hcut
          have HD1 := Lib.hid hD1
          have HN1 := Lib.hid hn1'
          have HBc := Lib.hid hb1
          have cJ := hb1.at' cI
          have hclJ := hb1.at' hcl
          have HGJ := Lib.hid (HGI.out.below hb1)
          obtain ⟨w7, rfl⟩ : ∃ w7, w7 = wc := ⟨_, rfl⟩
          clear hn1' hD1 hb1 cI hcl
          have ALLV : Hid (∀ wz, Below w7.heap.size w7 wz → Calls Tryd.prog 55 #[.agg #[.slice ga n gc]] wz fun e w' => ∃ (p : Option Addr) (c : Nat), e = .returned (.slice p n c) ∧ Nums w' 2 .i64 (.slice p n c) (natInts (List.range n)) ∧ Below wz.heap.size wz w') := Lib.hid fun wz hb => by
            refine (l16All_any _ g (by rw [← HN.out]; omega) wz (HGJ.out.below hb)).mono ?_
            rintro e w' ⟨u, rfl, ho, hb2⟩
            rw [← HN.out] at ho
            have hn := Nums.of_owns (xs := allL n) ho (allL_length _).symm (by omega)
            obtain ⟨p, c, rfl, _⟩ := id hn.shape
            rw [allL_length] at hn ⊢
            exact ⟨p, c, rfl, hn, hb2⟩
          have STEPA : Hid (∀ wz (p : Option Addr) (c : Nat), Below w7.heap.size w7 wz → Nums wz 2 .i64 (.slice p n c) (natInts (List.range n)) → Calls Tryd.prog 54 #[.agg #[.slice ga n gc], .slice p n c, .int .i64 (v : Int)] wz fun e w' => ∃ (ob oc : Nat) (D : List Int), e = .returned (.slice (some ⟨ob, 0, none⟩) n oc) ∧ Nums w' 2 .i64 (.slice (some ⟨ob, 0, none⟩) n oc) D ∧ D.length = n ∧ (∀ u, u < n → IsD (ofG g) (inW (2 ^ g.length - 1)) v u (D.getD u 0)) ∧ Below wz.heap.size wz w') := Lib.hid fun wz p c hb hnp => by
            refine (l18Steps_any _ _ g (List.range n) _ v rfl HOK.out (fun x hx => by rw [← HN.out]; exact List.mem_range.1 hx) (List.mem_range.2 hvn) wz (HGJ.out.below hb) hnp).mono ?_
            rintro e w' ⟨ob, oc, D, rfl, _, ho, hd, hD, hb2⟩
            rw [inW_range, HN.out] at hD
            rw [← HN.out] at hd ho
            rw [← HN.out] at hD ⊢
            exact ⟨ob, oc, D, rfl, Nums.of_owns ho hd.symm (by omega), hd, hD, hb2⟩
          go_upto_region 12 with fail
          go_cut [7] (fun s7 wx => ∃ (ob oc : Nat) (D : List Int), s7 = .slice (some ⟨ob, 0, none⟩) n oc ∧ Nums wx 2 .i64 (.slice (some ⟨ob, 0, none⟩) n oc) D ∧ D.length = n ∧ (∀ u, u < n → IsD (ofG g) (inW (2 ^ g.length - 1)) v u (D.getD u 0)) ∧ Below w7.heap.size w7 wx)
          case first =>
            go_region_held3 (fun Z => Z.cell? ⟨w.heap.size, 0, none⟩ = some (.slice ga n gc) ∧ Z.cell? ⟨lb, lo + i, none⟩ = some (.int .i64 (v : Int)))
              (first | exact ⟨cJ, hclJ⟩ | go_keep | exact ⟨BWB.at' cJ, BWB.at' hclJ⟩ | exact ⟨BWA.at' cJ, BWA.at' hclJ⟩)
              (first
                | (go_at_call 54; refine (STEPA.out _ _ _ BWA HNA.out).mono ?_; rintro e w8 ⟨o8, c8, D8, rfl, hn8', hd8, hD8, hb8⟩; have HN8 := Lib.hid hn8'; have HD8 := Lib.hid hD8; have BWB : Below w7.heap.size w7 w8 := BWA.trans (hb8.mono BWA.size); clear hn8' hD8)
                | (go_at_call 55; refine (ALLV.out _ (below_dN (Below.refl _ _) 1)).mono ?_; rintro e w9 ⟨p9, c9, rfl, hn9, hb9⟩; have HNA := Lib.hid hn9; have BWA : Below w7.heap.size w7 w9 := (below_dN (Below.refl _ _) 1).trans hb9; clear hn9))
            all_goals go_wp2
            all_goals go_meet
            all_goals exact ⟨o8, c8, D8, rfl, HN8.out, hd8, HD8.out, BWB⟩
          case rest =>
          obtain ⟨o2, oc2, D2, rfl, hn2', hd2, hD2, hb2⟩ := hcut
          have HD2 := Lib.hid hD2
          have HN2 := Lib.hid hn2'
          have HN1c := Lib.hid (HN1.out.below hb2)
          have HBd : Hid (Below w6.heap.size w6 wc) := Lib.hid ((HBI.out.trans (HBc.out.mono HBI.out.size)).trans (hb2.mono (Nat.le_trans HBI.out.size HBc.out.size)))
          have HNIc := Lib.hid ((HNI.out.below HBc.out).below hb2)
          obtain ⟨w8, rfl⟩ : ∃ w8, w8 = wc := ⟨_, rfl⟩
          clear hn2' hD2 hb2 cJ hclJ HN1
          go_wp2_with fail
          go_loopw [8] (fun jv wr => ∃ j : Nat, j ≤ L.length ∧ jv = .int .i64 (j : Int) ∧ Hid (RowT g s v (L.take j)) ∧ Hid (Below w8.heap.size w8 wr)) (fun jv _ => L.length - (intOf jv).toNat)
          case atStart => exact ⟨0, Nat.zero_le _, rfl, Lib.hid (by rw [List.take_zero]; exact rowT_nil g s v), Lib.hid (Below.refl _ _)⟩
          case round =>
            obtain ⟨j, hj, rfl, HRT, HBJ⟩ := hrel
            by_cases hjL : j < L.length
            · obtain ⟨u, hu⟩ : ∃ u : Nat, u = L[j] := ⟨_, rfl⟩
              have huL : u ∈ L := by rw [hu]; exact List.getElem_mem hjL
              have hun := HLN.out u huL
              have hus : s.testBit u = true := (mem_left hs16).1 (by rw [← HLE.out]; exact huL)
              have hcm : wr.cell? ⟨lb, lo + j, none⟩ = some (.int .i64 (u : Int)) := by
                have hjl : j < (natInts L).length := by rw [natInts_length]; exact hjL
                obtain ⟨_, _, e, hc⟩ := (HNIc.out.below HBJ.out).get (k := j) hjl
                cases e
                have hval : (natInts L)[j] = (u : Int) := by rw [hu]; simp [natInts]
                rw [hval] at hc
                exact hc
              have ha1 := nums_cell (HN1c.out.below HBJ.out) (u := u) (by omega)
              have ha2 := nums_cell (HN2.out.below HBJ.out) (u := u) (by omega)
              rw [Nat.zero_add] at ha1 ha2
              have HEQ := Lib.hid (isD_same (fun x hx => by
                show (2 ^ g.length - 1).testBit x = true
                rw [Nat.testBit_two_pow_sub_one, ← HN.out]
                simpa using HSN.out x hx) (HD1.out u hun) (HD2.out u hun))
              obtain ⟨d1, hd1e⟩ : ∃ d1, d1 = D1.getD u 0 := ⟨_, rfl⟩
              obtain ⟨d2, hd2e⟩ : ∃ d2, d2 = D2.getD u 0 := ⟨_, rfl⟩
              rw [← hd1e] at ha1
              rw [← hd2e] at ha2
              rw [← hd1e, ← hd2e] at HEQ
              have hui : (u : Int) < (n : Int) := by omega
              have hu0 : (0 : Int) ≤ (u : Int) := by omega
              have hji : (j : Int) < (L.length : Int) := by omega
              have hj0 : (0 : Int) ≤ (j : Int) := by omega
              have HUE := Lib.hid hu
              clear hu hd1e hd2e
              by_cases hde : d1 = d2
              · have HRT2 : Hid (RowT g s v (L.take (j + 1))) := Lib.hid (by
                  have e : L.take (j + 1) = L.take j ++ [u] := by rw [List.take_succ_eq_append_getElem hjL, HUE.out]
                  rw [e]
                  exact rowT_snoc HRT.out (HEQ.out.1 hde))
                subst hde
                have hne : ((d1 : Int) != d1) = false := by simp
                go_upto_region 16 with fail
                go_cut [79] (fun sv wx => sv = .bool false ∧ Below wr.heap.size wr wx)
                case first =>
                  go_region_held3 (fun Z => Z.cell? ⟨lb, lo + j, none⟩ = some (.int .i64 (u : Int)) ∧ Z.cell? ⟨o1, u, none⟩ = some (.int .i64 d1) ∧ Z.cell? ⟨o2, u, none⟩ = some (.int .i64 d1))
                    (first | exact ⟨hcm, ha1, ha2⟩ | go_keep) (fail)
                  all_goals go_wp2
                  all_goals go_meet
                  all_goals exact ⟨by first | rfl | simp, below_dN (Below.refl _ _) 1⟩
                case rest =>
                obtain ⟨rfl, hbz⟩ := hcut
                have HBY := Lib.hid (HBJ.out.trans (hbz.mono HBJ.out.size))
                clear hbz
                go_wp2_with fail
                go_roundw
                case rel => exact ⟨j + 1, by omega, by go_num, HRT2, HBY⟩
                case measure => simp [intOf]; omega
              · have HKF : Hid (KB = false) := Lib.hid (by
                  rw [HKB.out]
                  refine dec_false fun hk => ?_
                  exact not_okT (by rw [← HLE.out]; exact HC.out) hvs hus (fun h => hde (HEQ.out.2 h)) (HKG.out.1 hk s hs1 (by rw [← HN.out, ← HP.out]; exact hlt)))
                have hne : (d1 != d2) = true := by simpa using hde
                go_upto_region 16 with fail
                go_cut [79] (fun sv wx => sv = .bool true ∧ Below wr.heap.size wr wx)
                case first =>
                  go_region_held3 (fun Z => Z.cell? ⟨lb, lo + j, none⟩ = some (.int .i64 (u : Int)) ∧ Z.cell? ⟨o1, u, none⟩ = some (.int .i64 d1) ∧ Z.cell? ⟨o2, u, none⟩ = some (.int .i64 d2))
                    (first | exact ⟨hcm, ha1, ha2⟩ | go_keep) (fail)
                  all_goals go_wp2
                  all_goals go_meet
                  all_goals exact ⟨by first | rfl | (simp [hde]), below_dN (Below.refl _ _) 1⟩
                case rest =>
                obtain ⟨rfl, hbz⟩ := hcut
                have HBY := Lib.hid (HBd.out.trans ((HBJ.out.trans (hbz.mono HBJ.out.size)).mono HBd.out.size))
                clear hbz
                go_wp2_with fail
                go_ret
                exact ⟨by rw [HKF.out]; rfl, HB2.out.trans ((HBZ.out.trans (HBY.out.mono HBZ.out.size)).mono HB2.out.size)⟩
            · obtain rfl : j = L.length := by omega
              have HR2 : Hid (∀ v ∈ L.take (i + 1), RowT g s v L) := Lib.hid fun x hx => by
                rw [List.take_succ_eq_append_getElem hil, List.mem_append, List.mem_singleton] at hx
                rcases hx with hx | rfl
                · exact HR.out x hx
                · have := HRT.out
                  rw [List.take_length] at this
                  rw [← HVE.out]
                  exact this
              go_wp2_with fail
              go_roundw
              case rel => exact ⟨i + 1, by omega, by go_num, HR2, Lib.hid (HBd.out.trans (HBJ.out.mono HBd.out.size))⟩
              case measure => simp [intOf]; omega
        · obtain rfl : i = L.length := by omega
          have HNX : Hid (∀ t, 1 ≤ t → t < s + 1 → OkT g t) := Lib.hid fun t h1 h2 => by
            by_cases e : t = s
            · subst e
              refine okT_rows hs16 fun v hv => ?_
              have := HR.out
              rw [List.take_length, HLE.out] at this
              exact this v hv
            · exact HS.out t h1 (by omega)
          go_wp2_with fail
          go_roundw
          case rel => exact ⟨s + 1, by omega, by omega, by go_num, HNX, Lib.hid (HBZ.out.trans (HBI.out.mono HBZ.out.size))⟩
          case measure => simp [intOf]; omega
    · obtain rfl : s = P := by omega
      have HKT : Hid (KB = true) := Lib.hid (by
        rw [HKB.out]
        refine dec_true (HKG.out.2 fun t h1 h2 => HS.out t h1 (by rw [HP.out, HN.out]; exact h2)))
      go_wp2_with (go_at_call 51; refine (BIT.out _).mono ?_; rintro e w3 ⟨rfl, rfl⟩)
      go_ret
      exact ⟨by rw [HKT.out]; rfl, HB2.out.trans (HB.out.mono HB2.out.size)⟩

end Go.Proofs.YtfokiijcpkhllaaDoor
