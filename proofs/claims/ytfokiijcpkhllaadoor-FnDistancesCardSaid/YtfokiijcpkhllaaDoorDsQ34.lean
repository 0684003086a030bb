/- Walk: the program's DistancesKept. -/
import Derived.Test.YtfokiijcpkhllaaDoorDsQ17
import Derived.Test.YtfokiijcpkhllaaDoorDsQ29
import Derived.Test.YtfokiijcpkhllaaDoorDsQ32
import Derived.Test.YtfokiijcpkhllaaDoorDsQ33
import Derived.Test.YtfokiijcpkhllaaDoorDsQ9
namespace Go.Proofs.YtfokiijcpkhllaaDoor
open Go.RowKit

set_option maxRecDepth 100000 in
set_option maxHeartbeats 4000000 in
theorem implDistancesKept_any (v : Value) (g : List (List Int)) (w : World) (hok : GOk g) (h8 : g.length ≤ 8) (hg : Gr w v g) (hT : Tab w) :
    Calls Tryd.prog 12 #[v] w fun e w' => e = .returned (.bool (dec (KG g))) ∧ Below w.heap.size w w' := by
  have hg0 := Lib.hid hg
  obtain ⟨_, rfl, hr⟩ := hg
  obtain ⟨ga, gc, rfl, _⟩ := hr.shape
  obtain ⟨w1, hw1⟩ : ∃ w1, w1 = w.alloc (.cells #[.slice ga g.length gc] 29) := ⟨_, rfl⟩
  have HX : Hid (Box w1 w.heap.size 29 (.slice ga g.length gc)) := Lib.hid (by rw [hw1]; exact Box.new _ _ _)
  have HB1 : Hid (Below w.heap.size w w1) := Lib.hid (by rw [hw1]; exact below_alloc _ _)
  have HG1 := Lib.hid (hg0.out.below HB1.out)
  have HT1 := Lib.hid (hT.keep HB1.out)
  have HD := Lib.hid (dec_true (⟨hok, h8⟩ : GOk g ∧ g.length ≤ 8))
  have HOK := Lib.hid hok
  have HKG := Lib.hid (kg_iff hok)
  have hn1 := hok.pos
  obtain ⟨KB, hKB⟩ : ∃ KB, KB = dec (KG g) := ⟨_, rfl⟩
  have HKB := Lib.hid hKB
  rw [← hKB]
  obtain ⟨n, hn⟩ : ∃ n, n = g.length := ⟨_, rfl⟩
  have HN := Lib.hid hn
  have hn8 : n ≤ 8 := by omega
  clear hok hr hT hg0 hKB
  go_enter Tryd.func12, Tryd.ntmps12
  go_upto_region 1 with fail
  rw [← hw1]
  clear hw1
  have c1 := HX.out.cell
  clear hn
  go_upto_region 4 with (first
    | (go_at_call 40; refine (isSmall_any _ g _ HG1.out).mono ?_; rintro e w2 ⟨he, hb2⟩; rw [HD.out] at he; subst he; have c2 := hb2.at' c1)
    | (go_at_call 41; refine (netsOf_any _ g _ (HG1.out.below hb2) HOK.out).mono ?_; rintro e w3 ⟨xv, rfl, ho3, hb3⟩; have hne := neOf HOK.out ho3; rw [← HN.out] at hne; have HNE := Lib.hid hne; obtain ⟨xp, xc, rfl⟩ : ∃ p c, xv = .slice p n c := (by obtain ⟨p, c, e, _⟩ := hne.sl; exact ⟨p, c, e⟩); clear ho3 hne))
  have HB3 : Hid (Below w.heap.size w w3) := Lib.hid ((HB1.out.trans (hb2.mono HB1.out.size)).trans (hb3.mono (Nat.le_trans HB1.out.size hb2.size)))
  have HT3 := Lib.hid (HT1.out.keep (hb2.trans (hb3.mono hb2.size)))
  clear c1 c2 hb2 hb3 HX HB1 HG1 HT1
  obtain ⟨M, hM⟩ : ∃ M, M = 2 ^ n - 1 := ⟨_, rfl⟩
  have HM := Lib.hid hM
  have hM256 : M < 256 := by
    have h2 : 2 ^ n ≤ 2 ^ 8 := Nat.pow_le_pow_right (by decide) hn8
    have h3 : 0 < 2 ^ n := Nat.two_pow_pos n
    omega
  have HMP : Hid (M + 1 = 2 ^ n) := Lib.hid (by have := Nat.two_pow_pos n; omega)
  clear hM
  have ALL : Hid (∀ (wz : World), Calls Tryd.prog 46 #[.slice xp n xc] wz fun e w' => e = .returned (.int .u32 (M : Int)) ∧ wz = w') := Lib.hid fun wz => all_any' xp n xc M (by omega) HM.out wz
  have HE : Hid (∀ x y, ofG g x y = true → y < n) := Lib.hid fun x y e => by
    rw [HN.out]
    refine Classical.byContradiction fun hn => ?_
    have e2 := ofG_sym HOK.out _ _ e
    unfold ofG at e2
    rw [row_out hn] at e2
    simp at e2
  go_wp2_with fail
  go_loopw [4] (fun sv wr => ∃ s : Nat, 1 ≤ s ∧ s ≤ M + 1 ∧ sv = .int .u32 (s : Int) ∧ Hid (∀ t, 1 ≤ t → t < s → OkT g t) ∧ Hid (Below w3.heap.size w3 wr)) (fun sv _ => M + 1 - (intOf sv).toNat)
  case atStart => exact ⟨1, by omega, by omega, rfl, Lib.hid (fun t h1 h2 => by omega), Lib.hid (Below.refl _ _)⟩
  case round =>
    obtain ⟨s, hs1, hsM, rfl, HS, HB⟩ := hrel
    by_cases hlt : s ≤ M
    · have hle : (s : Int) ≤ (M : Int) := by omega
      have hs16 : s < 65536 := by omega
      have HNr := Lib.hid (HNE.out.next HB.out)
      have HTr := Lib.hid (HT3.out.keep HB.out)
      have HSN : Hid (∀ i, s.testBit i = true → i < n) := Lib.hid fun i hi => Classical.byContradiction fun hno => by
        have h1 : s < 2 ^ i := Nat.lt_of_lt_of_le (show s < 2 ^ n by have := HMP.out; omega) (Nat.pow_le_pow_right (by decide) (by omega))
        rw [Nat.testBit_lt_two_pow h1] at hi; cases hi
      by_cases hc : ConnL (ofG g) (bitsOf s)
      case neg =>
        have HDC := Lib.hid (dec_false hc)
        have HNX : Hid (∀ t, 1 ≤ t → t < s + 1 → OkT g t) := Lib.hid fun t h1 h2 => by
          by_cases e : t = s
          · subst e; exact fun h => absurd h hc
          · exact HS.out t h1 (by omega)
        clear hc
        go_wp2_with (first
          | (go_at_call 47; refine (connected_any _ _ n (ofG g) s rfl hs16 HSN.out _ HNr.out HTr.out).mono ?_; rintro e w5 ⟨he, hb5⟩; rw [HDC.out] at he; subst he; have HB5 := Lib.hid (HB.out.trans (hb5.mono HB.out.size)); clear hb5)
          | (go_at_call 46; refine (ALL.out _).mono ?_; rintro e w4 ⟨rfl, rfl⟩))
        go_roundw
        case rel => exact ⟨s + 1, by omega, by omega, by go_num, HNX, HB5⟩
        case measure => simp [intOf]; omega
      have HDC := Lib.hid (dec_true hc)
      have HC := Lib.hid hc
      clear hc
      go_upto_region 9 with (first
        | (go_at_call 48; refine (list_any _ s rfl (by omega) _ HT5.out).mono ?_; rintro e w6 ⟨lv, rfl, hown6, hb6⟩; have hnl := Nums.of_owns hown6 (natInts_length _).symm (by have := bitsOf_length s; omega); obtain ⟨lp, lc, rfl, _, _, _, hat⟩ := hnl.shape; rw [natInts_length])
        | (go_at_call 47; refine (connected_any _ _ n (ofG g) s rfl hs16 HSN.out _ HNr.out HTr.out).mono ?_; rintro e w5 ⟨he, hb5⟩; rw [HDC.out] at he; subst he; have HB5 := Lib.hid (HB.out.trans (hb5.mono HB.out.size)); have HT5 := Lib.hid (HTr.out.keep hb5); clear hb5)
        | (go_at_call 46; refine (ALL.out _).mono ?_; rintro e w4 ⟨rfl, rfl⟩))
      have HAT := Lib.hid hat
      have HB6 := Lib.hid (HB5.out.trans (hb6.mono HB5.out.size))
      have HT6 := Lib.hid (HT5.out.keep hb6)
      have HN6 := Lib.hid (HNE.out.next HB6.out)
      clear hb6 hown6 hnl hat HT5 HB5 HTr HNr HB
      obtain ⟨L, hL⟩ : ∃ L, L = bitsOf s := ⟨_, rfl⟩
      have hL32 : L.length ≤ 32 := by rw [hL]; exact bitsOf_length s
      rw [← hL] at HAT ⊢
      have HLE := Lib.hid hL
      clear hL
      go_wp2_with fail
      go_loopw [29] (fun iv wr => ∃ i : Nat, i ≤ L.length ∧ iv = .int .i64 (i : Int) ∧ Hid (∀ v ∈ L.take i, RowT g s v L) ∧ Hid (Below w6.heap.size w6 wr)) (fun iv _ => L.length - (intOf iv).toNat)
      case atStart => exact ⟨0, Nat.zero_le _, rfl, Lib.hid (fun v hv => by simp at hv), Lib.hid (Below.refl _ _)⟩
      case round =>
        obtain ⟨i, hi, rfl, HR, HBI⟩ := hrel
        by_cases hil : i < L.length
        · obtain ⟨v, hv⟩ : ∃ v : Nat, v = L[i] := ⟨_, rfl⟩
          have hvs : s.testBit v = true := (mem_left hs16).1 (by rw [← HLE.out, hv]; exact List.getElem_mem hil)
          have hvn := HSN.out v hvs
          have hjl : i < (natInts L).length := by rw [natInts_length]; exact hil
          obtain ⟨lb, lo, rfl, hcl⟩ := (HAT.out.below HBI.out).num hjl
          have hval : (natInts L)[i] = (v : Int) := by rw [hv]; simp [natInts]
          rw [hval] at hcl
          have HNI := Lib.hid (HN6.out.next HBI.out)
          have HTI := Lib.hid (HT6.out.keep HBI.out)
          have HVE := Lib.hid hv
          have hMv : M.testBit v = true := by rw [HM.out, Nat.testBit_two_pow_sub_one]; simpa using hvn
          have HMN : Hid (∀ u, M.testBit u = true → u < n) := Lib.hid fun u hu => by rw [HM.out, Nat.testBit_two_pow_sub_one] at hu; simpa using hu
          clear hval hv
          go_upto_region 12 with (first
            | (go_at_call 49; have HD7b := HD7; refine (distances_any _ _ _ n v M (ofG g) rfl rfl (by omega) HE.out (by omega) HMN.out hMv _ (HNI.out.next HB7.out) (HTI.out.keep HB7.out)).mono ?_; rintro e w8 ⟨k2, D2, rfl, hk2, ho8, hd8, hD8, hb8⟩; have HO7b := Lib.hid (ownsRow_below HO7.out hb8); have HO8 := Lib.hid ho8; have HD8 := Lib.hid hD8; have HB8 := Lib.hid (HB7.out.trans (hb8.mono HB7.out.size)); clear hb8 ho8 hD8 hk2)
            | (go_at_call 49; refine (distances_any _ _ _ n v s (ofG g) rfl rfl (by omega) HE.out hs16 HSN.out hvs _ HNI.out HTI.out).mono ?_; rintro e w7 ⟨k1, D1, rfl, hk1, ho7, hd7, hD7, hb7⟩; have HO7 := Lib.hid ho7; have HD7 := Lib.hid hD7; have HB7 := Lib.hid hb7; clear hb7 ho7 hD7 hk1)
            | (go_at_call 46; refine (ALL.out _).mono ?_; rintro e w4 ⟨rfl, rfl⟩))
          have HT8 := Lib.hid (HTI.out.keep HB8.out)
          go_upto_region 13 with (go_at_call 48; refine (list_any _ s rfl (by omega) _ HT8.out).mono ?_; rintro e w9 ⟨mv, rfl, hown9, hb9⟩; have hnm := Nums.of_owns hown9 (natInts_length _).symm (by have := bitsOf_length s; omega); obtain ⟨mp, mc, rfl, _, _, _, hat9⟩ := hnm.shape; rw [natInts_length])
          have HAT9 := Lib.hid hat9
          rw [← HLE.out] at HAT9 ⊢
          have HO7c := Lib.hid (ownsRow_below HO7b.out hb9)
          have HO8c := Lib.hid (ownsRow_below HO8.out hb9)
          have HB9 : Hid (Below w6.heap.size w6 w9) := Lib.hid ((HBI.out.trans (HB8.out.mono HBI.out.size)).trans (hb9.mono (Nat.le_trans HBI.out.size HB8.out.size)))
          clear hb9 hown9 hnm hat9 hcl HO7 HO7b HO8 HD7b
          go_wp2_with fail
          go_loopw [45] (fun jv wr => ∃ j : Nat, j ≤ L.length ∧ jv = .int .i64 (j : Int) ∧ Hid (RowT g s v (L.take j)) ∧ Hid (Below w9.heap.size w9 wr)) (fun jv _ => L.length - (intOf jv).toNat)
          case atStart => exact ⟨0, Nat.zero_le _, rfl, Lib.hid (by rw [List.take_zero]; exact rowT_nil g s v), Lib.hid (Below.refl _ _)⟩
          case round =>
            obtain ⟨j, hj, rfl, HRT, HBJ⟩ := hrel
            by_cases hjL : j < L.length
            · obtain ⟨u, hu⟩ : ∃ u : Nat, u = L[j] := ⟨_, rfl⟩
              have hus : s.testBit u = true := (mem_left hs16).1 (by rw [← HLE.out, hu]; exact List.getElem_mem hjL)
              have hun := HSN.out u hus
              have hjl2 : j < (natInts L).length := by rw [natInts_length]; exact hjL
              obtain ⟨mb, mo, rfl, hcm⟩ := (HAT9.out.below HBJ.out).num hjl2
              have hval : (natInts L)[j] = (u : Int) := by rw [hu]; simp [natInts]
              rw [hval] at hcm
              have ha1 := own_at (ownsRow_below HO7c.out HBJ.out) hd7 hun
              have ha2 := own_at (ownsRow_below HO8c.out HBJ.out) hd8 hun
              have hq1 := (HD7.out u hun).1
              have hq2 := (HD8.out u hun).1
              have hMA : M = 2 ^ g.length - 1 := by rw [HM.out, HN.out]
              have HEQ := Lib.hid (isD_same (fun x hx => by
                show M.testBit x = true
                rw [HM.out, Nat.testBit_two_pow_sub_one]
                simpa using HSN.out x hx) hq1 hq2)
              obtain ⟨d1, hd1⟩ : ∃ d1, d1 = D1.getD u 0 := ⟨_, rfl⟩
              obtain ⟨d2, hd2⟩ : ∃ d2, d2 = D2.getD u 0 := ⟨_, rfl⟩
              rw [← hd1] at ha1
              rw [← hd2] at ha2
              rw [← hd1, ← hd2, hMA] at HEQ
              have hui : (u : Int) < (n : Int) := by omega
              have hu0 : (0 : Int) ≤ (u : Int) := by omega
              have HUE := Lib.hid hu
              clear hval hu hq1 hq2 hd1 hd2 hMA
              by_cases hde : d1 = d2
              · have HRT2 : Hid (RowT g s v (L.take (j + 1))) := Lib.hid (by
                  have e : L.take (j + 1) = L.take j ++ [u] := by rw [List.take_succ_eq_append_getElem hjL, HUE.out]
                  rw [e]
                  exact rowT_snoc HRT.out (HEQ.out.1 hde))
                subst hde
                have hne : ((d1 : Int) != d1) = false := by simp
                go_upto_region 15 with fail
                go_cut [57] (fun s57 wx => s57 = .bool false ∧ Below wr.heap.size wr wx)
                case first =>
                  go_region_held3 (fun Z => Z.cell? ⟨k1, u, none⟩ = some (.int .i64 d1) ∧ Z.cell? ⟨k2, u, none⟩ = some (.int .i64 d1))
                    (first | exact ⟨ha1, ha2⟩ | go_keep) (fail)
                  all_goals go_wp2
                  all_goals go_meet
                  all_goals exact ⟨by first | rfl | simp, below_dN (Below.refl _ _) 1⟩
                case rest =>
                obtain ⟨rfl, hbz⟩ := hcut
                have HBZ := Lib.hid (HBJ.out.trans (hbz.mono HBJ.out.size))
                clear hbz
                go_wp2_with fail
                go_roundw
                case rel => exact ⟨j + 1, by omega, by go_num, HRT2, HBZ⟩
                case measure => simp [intOf]; omega
              · have HKF : Hid (KB = false) := Lib.hid (by
                  rw [HKB.out]
                  refine dec_false fun hk => ?_
                  exact not_okT HC.out hvs hus (fun h => hde (HEQ.out.2 h)) (HKG.out.1 hk s hs1 (by rw [← HN.out, ← HMP.out]; omega))
                  )
                have hne : (d1 != d2) = true := by simpa using hde
                go_upto_region 15 with fail
                go_cut [57] (fun s57 wx => s57 = .bool true ∧ Below wr.heap.size wr wx)
                case first =>
                  go_region_held3 (fun Z => Z.cell? ⟨k1, u, none⟩ = some (.int .i64 d1) ∧ Z.cell? ⟨k2, u, none⟩ = some (.int .i64 d2))
                    (first | exact ⟨ha1, ha2⟩ | go_keep) (fail)
                  all_goals go_wp2
                  all_goals go_meet
                  all_goals exact ⟨by first | rfl | (simp [hde]), below_dN (Below.refl _ _) 1⟩
                case rest =>
                obtain ⟨rfl, hbz⟩ := hcut
                have HBZ := Lib.hid (HB9.out.trans ((HBJ.out.trans (hbz.mono HBJ.out.size)).mono HB9.out.size))
                clear hbz
                go_wp2_with fail
                go_ret
                exact ⟨by rw [HKF.out]; rfl, HB3.out.trans ((HB6.out.trans (HBZ.out.mono HB6.out.size)).mono HB3.out.size)⟩
            · obtain rfl : j = L.length := by omega
              have HR2 : Hid (∀ v ∈ L.take (i + 1), RowT g s v L) := Lib.hid fun x hx => by
                rw [List.take_succ_eq_append_getElem hil, List.mem_append, List.mem_singleton] at hx
                rcases hx with hx | rfl
                · exact HR.out x hx
                · have := HRT.out
                  rw [List.take_length] at this
                  rw [← HVE.out]
                  exact this
              go_wp2_with fail
              go_roundw
              case rel => exact ⟨i + 1, by omega, by go_num, HR2, Lib.hid (HB9.out.trans (HBJ.out.mono HB9.out.size))⟩
              case measure => simp [intOf]; omega
        · obtain rfl : i = L.length := by omega
          have HNX : Hid (∀ t, 1 ≤ t → t < s + 1 → OkT g t) := Lib.hid fun t h1 h2 => by
            by_cases e : t = s
            · subst e
              refine okT_rows hs16 fun v hv => ?_
              have := HR.out
              rw [List.take_length, HLE.out] at this
              exact this v hv
            · exact HS.out t h1 (by omega)
          go_wp2_with fail
          go_roundw
          case rel => exact ⟨s + 1, by omega, by omega, by go_num, HNX, Lib.hid (HB6.out.trans (HBI.out.mono HB6.out.size))⟩
          case measure => simp [intOf]; omega
    · obtain rfl : s = M + 1 := by omega
      have HKT : Hid (KB = true) := Lib.hid (by
        rw [HKB.out]
        refine dec_true (HKG.out.2 fun t h1 h2 => HS.out t h1 (by rw [HMP.out, HN.out]; exact h2)))
      have hle : ¬ ((M : Int) + 1) ≤ (M : Int) := by omega
      have hle2 : ¬ (((M + 1 : Nat)) : Int) ≤ (M : Int) := by omega
      go_wp2_with (go_at_call 46; refine (ALL.out _).mono ?_; rintro e w4 ⟨rfl, rfl⟩)
      go_ret
      exact ⟨by rw [HKT.out]; rfl, HB3.out.trans (HB.out.mono HB3.out.size)⟩

end Go.Proofs.YtfokiijcpkhllaaDoor

/- Plain: a search with a queue finds the distances. -/
namespace Go.Proofs.YtfokiijcpkhllaaDoor

def cntP : List Int → Nat
  | [] => 0
  | x :: D => (if 0 ≤ x then 1 else 0) + cntP D
theorem cntP_le : ∀ D : List Int, cntP D ≤ D.length
  | [] => Nat.le_refl _
  | x :: D => by
    have := cntP_le D
    rw [cntP, List.length_cons]
    split <;> omega
theorem cntP_set : ∀ (D : List Int) (u : Nat) (f : Int), u < D.length → D.getD u 0 < 0 → 0 ≤ f → cntP (D.set u f) = cntP D + 1
  | [], u, f, h, _, _ => by simp at h
  | x :: D, 0, f, _, h, hf => by
    have h : x < 0 := by simpa using h
    rw [List.set_cons_zero, cntP, cntP, if_pos hf, if_neg (by omega)]
    omega
  | x :: D, u + 1, f, h, h2, hf => by
    rw [List.set_cons_succ, cntP, cntP, cntP_set D u f (by simpa using h) (by simpa using h2) hf]
    omega
theorem getD_setI (D : List Int) (u t : Nat) (f : Int) (hu : u < D.length) : (D.set u f).getD t 0 = if t = u then f else D.getD t 0 := by
  by_cases e : t = u
  · subst e; simp [hu]
  · simp [e, List.getElem?_set, Ne.symm e]
/-- The search so far. -/
structure BfI (E : Nat → Nat → Bool) (W : Nat → Prop) (R : Nat → List Int) (n v : Nat) (D : List Int) (Q : List Nat) (c : Option Nat) (i : Nat) : Prop where
  len : D.length = n
  low : ∀ u, u < n → -1 ≤ D.getD u 0
  bnd : ∀ u, u < n → D.getD u 0 < cntP D
  val : ∀ u, u < n → ∀ m : Nat, D.getD u 0 = m → LW E W v m u
  src : D.getD v 0 = 0
  qin : ∀ x ∈ Q, x < n ∧ 0 ≤ D.getD x 0
  srt : Q.Pairwise fun a b => D.getD a 0 ≤ D.getD b 0
  top : ∀ x ∈ Q, c = none → ∀ y, y < n → D.getD y 0 ≤ D.getD x 0 + 1
  topc : ∀ x, c = some x → (∀ y, y < n → D.getD y 0 ≤ D.getD x 0 + 1) ∧ ∀ z ∈ Q, D.getD x 0 ≤ D.getD z 0
  dne : ∀ x, x < n → 0 ≤ D.getD x 0 → x ∉ Q → c ≠ some x → ∀ y, E x y = true → W y → 0 ≤ D.getD y 0 ∧ D.getD y 0 ≤ D.getD x 0 + 1
  cur : ∀ x, c = some x → x < n ∧ 0 ≤ D.getD x 0 ∧ ∀ y : Nat, (y : Int) ∈ (R x).take i → W y → 0 ≤ D.getD y 0 ∧ D.getD y 0 ≤ D.getD x 0 + 1
theorem cntP_rep (n : Nat) : cntP (List.replicate n (-1)) = 0 := by
  induction n with
  | zero => rfl
  | succ n ih => rw [List.replicate_succ, cntP, ih]; rfl
theorem rep_at {n u : Nat} (h : u < n) : (List.replicate n (-1 : Int)).getD u 0 = -1 := by simp [h]
theorem BfI.start {E : Nat → Nat → Bool} {W : Nat → Prop} {R : Nat → List Int} {n v : Nat} (hv : W v) (hvn : v < n) : BfI E W R n v ((List.replicate n (-1)).set v 0) [v] none 0 := by
  have hat : ∀ t, t < n → ((List.replicate n (-1 : Int)).set v 0).getD t 0 = if t = v then 0 else -1 := fun t ht => by
    rw [getD_setI _ _ _ _ (by simp; exact hvn), rep_at ht]
  have hc : cntP ((List.replicate n (-1 : Int)).set v 0) = 1 := by
    rw [cntP_set _ _ _ (by simp; exact hvn) (by rw [rep_at hvn]; omega) (Int.le_refl _), cntP_rep]
  refine ⟨by simp, fun u hu => ?_, fun u hu => ?_, fun u hu m hm => ?_, by rw [hat v hvn, if_pos rfl], fun x hx => ?_, by simp, fun x hx _ y hy => ?_, fun x h => (by cases h), fun x hx h0 hq => ?_, fun x h => (by cases h)⟩
  · rw [hat u hu]; split <;> omega
  · rw [hat u hu, hc]; split <;> omega
  · rw [hat u hu] at hm
    by_cases e : u = v
    · rw [if_pos e] at hm
      obtain rfl : m = 0 := by omega
      subst e; exact .base hv
    · rw [if_neg e] at hm; omega
  · obtain rfl : x = v := by simpa using hx
    exact ⟨hvn, by rw [hat x hvn, if_pos rfl]; omega⟩
  · obtain rfl : x = v := by simpa using hx
    rw [hat y hy, hat x hvn, if_pos rfl]
    split <;> omega
  · rw [hat x hx] at h0
    by_cases e : x = v
    · exact absurd (by rw [e]; simp) hq
    · rw [if_neg e] at h0; omega
theorem BfI.pop {E : Nat → Nat → Bool} {W : Nat → Prop} {R : Nat → List Int} {n v : Nat} {D : List Int} {c : Nat} {Q : List Nat} {i : Nat} (h : BfI E W R n v D (c :: Q) none i) : BfI E W R n v D Q (some c) 0 := by
  have hq := h.qin c (by simp)
  have hs := List.pairwise_cons.1 h.srt
  refine ⟨h.len, h.low, h.bnd, h.val, h.src, fun x hx => h.qin x (by simp [hx]), hs.2, fun _ _ e => (by cases e), fun x e => ?_, fun x hx h0 hn hc => h.dne x hx h0 (fun hm => ?_) (fun e => by cases e), fun x e => ?_⟩
  · cases e
    exact ⟨h.top c (by simp) rfl, fun z hz => hs.1 z hz⟩
  · rcases List.mem_cons.1 hm with rfl | hm
    · exact hc rfl
    · exact hn hm
  · cases e
    exact ⟨hq.1, hq.2, fun y hy => by simp at hy⟩
theorem BfI.skip {E : Nat → Nat → Bool} {W : Nat → Prop} {R : Nat → List Int} {n v : Nat} {D : List Int} {c : Nat} {Q : List Nat} {i : Nat} (h : BfI E W R n v D Q (some c) i) (hi : i < (R c).length) {t : Nat} (ht : (t : Int) = (R c)[i]) (htn : t < n) (hs : ¬ W t ∨ 0 ≤ D.getD t 0) : BfI E W R n v D Q (some c) (i + 1) := by
  refine ⟨h.len, h.low, h.bnd, h.val, h.src, h.qin, h.srt, h.top, h.topc, h.dne, fun x e => ?_⟩
  cases e
  obtain ⟨h1, h2, h3⟩ := h.cur c rfl
  refine ⟨h1, h2, fun y hy hw => ?_⟩
  rw [List.take_succ_eq_append_getElem hi, List.mem_append, List.mem_singleton, ← ht] at hy
  rcases hy with hy | hy
  · exact h3 y hy hw
  · obtain rfl : y = t := by omega
    exact ⟨hs.resolve_left fun hn => hn hw, (h.topc c rfl).1 y htn⟩
theorem BfI.add {E : Nat → Nat → Bool} {W : Nat → Prop} {R : Nat → List Int} {n v : Nat} {D : List Int} {c : Nat} {Q : List Nat} {i : Nat} (h : BfI E W R n v D Q (some c) i) (hi : i < (R c).length) {t : Nat} (ht : (t : Int) = (R c)[i]) (htn : t < n) (hw : W t) (h0 : D.getD t 0 < 0) (hE : E c t = true) :
    BfI E W R n v (D.set t (D.getD c 0 + 1)) (Q ++ [t]) (some c) (i + 1) ∧ cntP (D.set t (D.getD c 0 + 1)) = cntP D + 1 := by
  obtain ⟨hc1, hc2, hc3⟩ := h.cur c rfl
  obtain ⟨ht1, ht2⟩ := h.topc c rfl
  have hlen := h.len
  have hct : c ≠ t := fun e => by rw [e] at hc2; omega
  have hat : ∀ u, (D.set t (D.getD c 0 + 1)).getD u 0 = if u = t then D.getD c 0 + 1 else D.getD u 0 := fun u => getD_setI _ _ _ _ (by omega)
  have hne : ∀ u, 0 ≤ D.getD u 0 → (D.set t (D.getD c 0 + 1)).getD u 0 = D.getD u 0 := fun u hu => by
    rw [hat, if_neg fun e => by rw [e] at hu; omega]
  have hcnt := cntP_set D t (D.getD c 0 + 1) (by omega) h0 (by omega)
  refine ⟨⟨by rw [List.length_set]; exact h.len, fun u hu => ?_, fun u hu => ?_, fun u hu m hm => ?_, ?_, fun x hx => ?_, ?_, fun _ _ e => (by cases e), fun x e => ?_, fun x hx hx0 hq hxc y hxy hwy => ?_, fun x e => ?_⟩, hcnt⟩
  · rw [hat]; split
    · omega
    · exact h.low u hu
  · rw [hat, hcnt]; split
    · have := h.bnd c hc1; omega
    · have := h.bnd u hu; omega
  · rw [hat] at hm
    by_cases e : u = t
    · rw [if_pos e] at hm
      subst e
      obtain ⟨j, hj⟩ := Int.eq_ofNat_of_zero_le hc2
      obtain rfl : m = j + 1 := by omega
      exact .step (h.val c hc1 j hj) (.inr hE) hw
    · rw [if_neg e] at hm
      exact h.val u hu m hm
  · rw [hne v (by rw [h.src]; exact Int.le_refl _)]
    exact h.src
  · rcases List.mem_append.1 hx with hx | hx
    · obtain ⟨a, b⟩ := h.qin x hx
      exact ⟨a, by rw [hne x b]; exact b⟩
    · obtain rfl : x = t := by simpa using hx
      exact ⟨htn, by rw [hat, if_pos rfl]; omega⟩
  · refine List.pairwise_append.2 ⟨h.srt.imp_of_mem fun {a b} ha hb hab => ?_, by simp, fun a ha b hb => ?_⟩
    · rw [hne a (h.qin a ha).2, hne b (h.qin b hb).2]; exact hab
    · obtain rfl : b = t := by simpa using hb
      rw [hne a (h.qin a ha).2, hat, if_pos rfl]
      exact ht1 a (h.qin a ha).1
  · cases e
    rw [hne c hc2]
    refine ⟨fun y hy => ?_, fun z hz => ?_⟩
    · rw [hat]; split
      · omega
      · exact ht1 y hy
    · rcases List.mem_append.1 hz with hz | hz
      · rw [hne z (h.qin z hz).2]; exact ht2 z hz
      · obtain rfl : z = t := by simpa using hz
        rw [hat, if_pos rfl]; omega
  · have hxt : x ≠ t := fun e => hq (by simp [e])
    rw [hat, if_neg hxt] at hx0
    obtain ⟨a, b⟩ := h.dne x hx hx0 (fun hm => hq (by simp [hm])) hxc y hxy hwy
    rw [hne y a, hne x hx0]
    exact ⟨a, b⟩
  · cases e
    refine ⟨hc1, by rw [hne c hc2]; exact hc2, fun y hy hwy => ?_⟩
    rw [hne c hc2]
    rw [List.take_succ_eq_append_getElem hi, List.mem_append, List.mem_singleton, ← ht] at hy
    rcases hy with hy | hy
    · obtain ⟨a, b⟩ := hc3 y hy hwy
      rw [hne y a]
      exact ⟨a, b⟩
    · obtain rfl : y = t := by omega
      rw [hat, if_pos rfl]
      omega
theorem BfI.fin {E : Nat → Nat → Bool} {W : Nat → Prop} {R : Nat → List Int} {n v : Nat} {D : List Int} {c : Nat} {Q : List Nat} {i : Nat} (h : BfI E W R n v D Q (some c) i) (hi : (R c).length ≤ i) (hR : ∀ x y : Nat, E x y = true → (y : Int) ∈ R x) : BfI E W R n v D Q none 0 := by
  obtain ⟨hc1, hc2, hc3⟩ := h.cur c rfl
  obtain ⟨ht1, ht2⟩ := h.topc c rfl
  refine ⟨h.len, h.low, h.bnd, h.val, h.src, h.qin, h.srt, fun x hx _ y hy => ?_, fun x e => (by cases e), fun x hx h0 hq _ y hxy hw => ?_, fun x e => (by cases e)⟩
  · have := ht1 y hy
    have := ht2 x hx
    omega
  · by_cases e : x = c
    · subst e
      exact hc3 y (by rw [List.take_of_length_le hi]; exact hR x y hxy) hw
    · exact h.dne x hx h0 hq (fun e2 => e (by cases e2; rfl)) y hxy hw
theorem BfI.done {E : Nat → Nat → Bool} {W : Nat → Prop} {R : Nat → List Int} {n v : Nat} {D : List Int} {i : Nat} (h : BfI E W R n v D [] none i) (hW : ∀ x, W x → x < n) {u : Nat} (hu : u < n) : IsD E W v u (D.getD u 0) := by
  have key : ∀ k u, LW E W v k u → 0 ≤ D.getD u 0 ∧ D.getD u 0 ≤ k := fun k u hk => by
    induction hk with
    | base _ => rw [h.src]; exact ⟨Int.le_refl _, Int.le_refl _⟩
    | @step k x y h1 h2 h3 ih =>
      rcases h2 with rfl | h2
      · exact ⟨ih.1, by omega⟩
      · have := h.dne x (hW x h1.lst) ih.1 (by simp) (fun e => by cases e) y h2 h3
        exact ⟨this.1, by omega⟩
  by_cases h0 : 0 ≤ D.getD u 0
  · obtain ⟨m, hm⟩ := Int.eq_ofNat_of_zero_le h0
    exact .inr ⟨m, hm, h.val u hu m hm, fun k hk hk2 => by have := (key k u hk2).2; omega⟩
  · exact .inl ⟨by have := h.low u hu; omega, fun k hk => h0 (key k u hk).1⟩

end Go.Proofs.YtfokiijcpkhllaaDoor
