/- Walks: places and crossings, of the program. -/
import Derived.Test.YtbdcolhmhbfdoaaDoorPermP
import Derived.Test.YtbdcolhmhbfdoaaDoorRenB
import Derived.Deep.RegionHeld3
import Derived.Deep.DeepCutAuto
namespace Go.Proofs.YtbdcolhmhbfdoaaDoor
open Go.RowKit

set_option maxRecDepth 100000 in
set_option maxHeartbeats 2000000 in
theorem placesIn_any (lv : Value) (l : List Int) (w : World) (hn : Nums w 2 .i64 lv l) :
    Calls Tryd.prog 88 #[lv] w fun e w' => ∃ u, e = .returned (.tuple #[u, .bool (dec (LineOk l))]) ∧
      (LineOk l → w'.ownsRow w.heap.size 3 1 u l.length ((placesL l l.length).map (Value.int .i64))) ∧ (¬ LineOk l → u = .slice none 0 0) ∧ Below w.heap.size w w' := by
  obtain ⟨lp, lc, rfl, _, _, hll, _⟩ := id hn.shape
  have HN := Lib.hid hn
  clear hn
  by_cases h1 : (l.length : Int) < 1
  · have hd := dec_false (show ¬ LineOk l from fun h => by have := h.1; omega)
    have hN := Lib.hid (show ¬ LineOk l from fun h => by have := h.1; omega)
    go_enter Tryd.func88, Tryd.ntmps88
    go_wp2
    refine bodyPost_ret (v := .tuple #[.slice none 0 0, .bool false]) (by simp [results, Tryd.results88, go_sem]) rfl ?_
    exact ⟨.slice none 0 0, by first | rw [hd] | rfl, fun h => absurd h hN.out, fun _ => rfl, Below.refl _ _⟩
  by_cases h2 : 16 < (l.length : Int)
  · have hd := dec_false (show ¬ LineOk l from fun h => by have := h.2.1; omega)
    have hN := Lib.hid (show ¬ LineOk l from fun h => by have := h.2.1; omega)
    go_enter Tryd.func88, Tryd.ntmps88
    go_wp2
    refine bodyPost_ret (v := .tuple #[.slice none 0 0, .bool false]) (by simp [results, Tryd.results88, go_sem]) rfl ?_
    exact ⟨.slice none 0 0, by first | rw [hd] | rfl, fun h => absurd h hN.out, fun _ => rfl, Below.refl _ _⟩
  by_cases h3 : OrdOk l.length l
  case neg =>
    have hd := dec_false (show ¬ LineOk l from fun h => h3 h.2.2)
    have hN := Lib.hid (show ¬ LineOk l from fun h => h3 h.2.2)
    have hds := dec_false (show ¬ SetIn l.length (l.mergeSort fun x y => decide (x ≤ y)) from fun h => h3 ((ordOk_sort rfl).1 h))
    clear h3
    go_enter Tryd.func88, Tryd.ntmps88
    go_wp2_with (first
      | (go_at_call 71; refine (increasing_any _ _ l.length (by omega) (by omega) _ (Nums.of_owns hown4 (by simp) hll)).mono ?_; rintro e w5 ⟨he, rfl⟩; rw [hds] at he; subst he)
      | (go_at_call 69; refine (sorted_any w.heap.size _ l hll _ (by rw [size_alloc]; omega) (cell_new _ _ _) (Held.of_nums (HN.out.below (below_alloc w _)))).mono ?_; rintro e w4 ⟨sv, rfl, hown4, hb4⟩)
      | (go_at_call 70; refine (values_any _ _ _ _).mono ?_; rintro e w3 ⟨rfl, rfl⟩))
    refine bodyPost_ret (v := .tuple #[.slice none 0 0, .bool false]) (by simp [results, Tryd.results88, go_sem]) rfl ?_
    exact ⟨.slice none 0 0, by first | rw [hd] | rfl, fun h => absurd h hN.out, fun _ => rfl, (below_alloc w (.cells #[.slice lp l.length lc] 25)).trans (hb4.mono (by rw [size_alloc]; omega))⟩
  have hd := dec_true (show LineOk l from ⟨by omega, by omega, h3⟩)
  have hds := dec_true (show SetIn l.length (l.mergeSort fun x y => decide (x ≤ y)) from (ordOk_sort rfl).2 h3)
  have H3 := Lib.hid h3
  have hN := Lib.hid (show LineOk l from ⟨by omega, by omega, h3⟩)
  clear h3
  go_enter Tryd.func88, Tryd.ntmps88
  go_wp2_with (first
    | (at_make; refine wpList_mk ty_int rfl rfl rfl l.length rfl rfl rfl rfl (by omega) ?_; intro w6 hown6 hg6)
    | (go_at_call 71; refine (increasing_any _ _ l.length (by omega) (by omega) _ (Nums.of_owns hown4 (by simp) hll)).mono ?_; rintro e w5 ⟨he, rfl⟩; rw [hds] at he; subst he)
    | (go_at_call 69; refine (sorted_any w.heap.size _ l hll _ (by rw [size_alloc]; omega) (cell_new _ _ _) (Held.of_nums (HN.out.below (below_alloc w _)))).mono ?_; rintro e w4 ⟨sv, rfl, hown4, hb4⟩)
    | (go_at_call 70; refine (values_any _ _ _ _).mono ?_; rintro e w3 ⟨rfl, rfl⟩))
  have hb6 := grown_below hg6
  have hb46 := (below_alloc w (.cells #[.slice lp l.length lc] 25)).trans (hb4.mono (by rw [size_alloc]; omega))
  have HB4 := Lib.hid hb46
  have HB6 := Lib.hid (hb46.trans (hb6.mono hb46.size))
  have START : Hid (w6.ownsRow w4.heap.size 3 1 (.slice (some ⟨w4.heap.size, 0, none⟩) l.length l.length) l.length ((placesL l 0).map (Value.int .i64))) := Lib.hid (by
    rw [placesL_zero, List.map_replicate]; exact hown6)
  clear hown6 hg6 hb6 hb46 hown4 hb4
  have hsz5 := HB4.out.size
  go_loopw [28] (fun i wr => ∃ k : Nat, k ≤ l.length ∧ i = .int .i64 k ∧ wr.ownsRow w4.heap.size 3 1 (.slice (some ⟨w4.heap.size, 0, none⟩) l.length l.length) l.length ((placesL l k).map (Value.int .i64)) ∧ Below w.heap.size w wr)
    (fun i _ => l.length - (intOf i).toNat)
  case atStart => exact ⟨0, Nat.zero_le _, rfl, START.out, HB6.out⟩
  case round =>
    clear START
    obtain ⟨k, hk, rfl, hown, hbel⟩ := hrel
    by_cases hlt : k < l.length
    · obtain ⟨b, o, rfl, hc⟩ := (HN.out.below hbel).get hlt
      have hx := H3.out.2.1 _ (List.getElem_mem hlt)
      have hst := Lib.hid (placesL_step H3.out hlt)
      obtain ⟨n0, hn0⟩ : ∃ n0 : Nat, l[k] = (n0 : Int) := ⟨l[k].toNat, (Int.toNat_of_nonneg hx.1).symm⟩
      have hnl : n0 < l.length := by omega
      rw [hn0] at hc
      have hcell := hown.cellAt n0 (by omega)
      have hpl := placesL_length l k
      rw [List.getElem?_map, List.getElem?_eq_getElem (show n0 < (placesL l k).length by omega)] at hcell
      change wr.cell? _ = some (.int .i64 _) at hcell
      have hfz := hown.frozenAt n0
      obtain ⟨ho2, hg2⟩ := hown.stored n0 (.int .i64 k)
      have Ho2 := Lib.hid ho2
      have hb2 := below_grown hbel hown hg2 (by omega) hbel.size
      have HN0 := Lib.hid hn0
      generalize (placesL l k)[n0]'(by omega) = old at hcell
      clear hg2 ho2 hown hx hn0 hpl
      go_wp2
      go_roundw
      case rel =>
        refine ⟨k + 1, by omega, by go_num, ?_, hb2⟩
        have e := hst.out
        rw [HN0.out, Int.toNat_natCast] at e
        rw [← e, List.map_set]
        exact Ho2.out
      case measure => simp [intOf]; omega
    · obtain rfl : k = l.length := by omega
      go_wp2
      refine bodyPost_ret (v := .tuple #[.slice (some ⟨w4.heap.size, 0, none⟩) l.length l.length, .bool true]) (by simp [results, Tryd.results88, go_sem]) rfl ?_
      exact ⟨.slice (some ⟨w4.heap.size, 0, none⟩) l.length l.length, by first | rw [hd] | rfl, fun _ => ownsRow_base hown (by omega), fun h => absurd hN.out h, hbel⟩

set_option maxRecDepth 100000 in
set_option maxHeartbeats 4000000 in
theorem crossings_any (av bv : Value) (a b : List Int) (w : World) (ha : Nums w 2 .i64 av a) (hb : Nums w 2 .i64 bv b) :
    Calls Tryd.prog 59 #[av, bv] w fun e w' => ∃ u, e = .returned (.tuple #[u, .bool (dec (LinesOk a b))]) ∧
      (LinesOk a b → w'.ownsRow w.heap.size 73 1 u a.length ((indN a.length (crN a b)).map u32v)) ∧ (¬ LinesOk a b → u = .slice none 0 0) ∧ Below w.heap.size w w' := by
  obtain ⟨ap, ac, rfl, _⟩ := id ha.shape
  obtain ⟨bp, bc, rfl, _⟩ := id hb.shape
  have HA := Lib.hid ha
  have HB := Lib.hid hb
  clear ha hb
  by_cases hok : LinesOk a b
  case neg =>
    have hd := dec_false hok
    have Hok := Lib.hid hok
    clear hok
    by_cases h1 : LineOk a
    case neg =>
      have hA := dec_false h1
      clear h1
      cases hB : dec (LineOk b) <;> (
        go_enter Tryd.func59, Tryd.ntmps59
        go_wp2_with (first
          | (go_at_call 88; refine (placesIn_any _ b _ (HB.out.below hb2)).mono ?_; rintro e w3 ⟨u3, he, _, _, hb3⟩; rw [hB] at he; subst he)
          | (go_at_call 88; refine (placesIn_any _ a _ HA.out).mono ?_; rintro e w2 ⟨u2, he, _, _, hb2⟩; rw [hA] at he; subst he))
        refine bodyPost_ret (v := .tuple #[.slice none 0 0, .bool false]) (by simp [results, Tryd.results59, go_sem]) rfl ?_
        exact ⟨.slice none 0 0, by first | rw [hd] | rfl, fun h => absurd h Hok.out, fun _ => rfl, hb2.trans (hb3.mono hb2.size)⟩)
    have hA := dec_true h1
    have H1 := Lib.hid h1
    clear h1
    by_cases h2 : LineOk b
    case neg =>
      have hB := dec_false h2
      clear h2
      go_enter Tryd.func59, Tryd.ntmps59
      go_wp2_with (first
        | (go_at_call 88; refine (placesIn_any _ b _ (HB.out.below hb2)).mono ?_; rintro e w3 ⟨u3, he, _, _, hb3⟩; rw [hB] at he; subst he)
        | (go_at_call 88; refine (placesIn_any _ a _ HA.out).mono ?_; rintro e w2 ⟨u2, he, _, _, hb2⟩; rw [hA] at he; subst he))
      refine bodyPost_ret (v := .tuple #[.slice none 0 0, .bool false]) (by simp [results, Tryd.results59, go_sem]) rfl ?_
      exact ⟨.slice none 0 0, by first | rw [hd] | rfl, fun h => absurd h Hok.out, fun _ => rfl, hb2.trans (hb3.mono hb2.size)⟩
    have hB := dec_true h2
    have H2 := Lib.hid h2
    clear h2
    have hne : ((a.length : Int) != (b.length : Int)) = true := by
      have : a.length ≠ b.length := fun h => Hok.out ⟨H1.out, H2.out, h⟩
      simp; omega
    go_enter Tryd.func59, Tryd.ntmps59
    go_wp2_with (first
      | (go_at_call 88; refine (placesIn_any _ b _ (HB.out.below hb2)).mono ?_; rintro e w3 ⟨u3, he, _, _, hb3⟩; rw [hB] at he; subst he)
      | (go_at_call 88; refine (placesIn_any _ a _ HA.out).mono ?_; rintro e w2 ⟨u2, he, _, _, hb2⟩; rw [hA] at he; subst he))
    refine bodyPost_ret (v := .tuple #[.slice none 0 0, .bool false]) (by simp [results, Tryd.results59, go_sem]) rfl ?_
    exact ⟨.slice none 0 0, by first | rw [hd] | rfl, fun h => absurd h Hok.out, fun _ => rfl, hb2.trans (hb3.mono hb2.size)⟩
  have hd := dec_true hok
  have hA := dec_true hok.1
  have hB := dec_true hok.2.1
  have h16 := hok.1.2.1
  have h1 := hok.1.1
  have hlen : ((a.length : Int) != (b.length : Int)) = false := by
    have := hok.2.2
    simp; omega
  have HS := Lib.hid (crN_sym hok)
  have HEA := Lib.hid (placesL_end hok.1.2.2)
  have HEB := Lib.hid (placesL_end hok.2.1.2.2)
  have Hok := Lib.hid hok
  clear hok
  go_enter Tryd.func59, Tryd.ntmps59
  go_wp2_with (first
    | (at_make; refine wpList_mk ty_nets rfl rfl rfl a.length rfl rfl rfl rfl (by omega) ?_; intro w4 hown4 hg4)
    | (go_at_call 88; refine (placesIn_any _ b _ (HB.out.below hb2)).mono ?_; rintro e w3 ⟨u3, he, hy3, _, hb3⟩; rw [hB] at he; subst he; have HQ := Lib.hid (hy3 Hok.out.2.1); clear hy3; obtain ⟨q3, d3, rfl⟩ : ∃ p c, u3 = .slice p b.length c := (by rcases HQ.out.2 with ⟨h1, h2⟩ | ⟨g1, cap, cur, h1, _⟩; exact ⟨none, 0, by rw [h1, h2]⟩; exact ⟨_, _, h1⟩))
    | (go_at_call 88; refine (placesIn_any _ a _ HA.out).mono ?_; rintro e w2 ⟨u2, he, hy2, _, hb2⟩; rw [hA] at he; subst he; have HP := Lib.hid (hy2 Hok.out.1); clear hy2; obtain ⟨p2, c2, rfl⟩ : ∃ p c, u2 = .slice p a.length c := (by rcases HP.out.2 with ⟨h1, h2⟩ | ⟨g1, cap, cur, h1, _⟩; exact ⟨none, 0, by rw [h1, h2]⟩; exact ⟨_, _, h1⟩)))
  have NP : Hid (Nums w3 3 .i64 (.slice p2 a.length c2) (placesL a a.length)) := Lib.hid (by
    have := Nums.of_owns (ownsRow_below HP.out hb3) (by rw [placesL_length]) (by omega)
    exact this)
  have NQ : Hid (Nums w3 3 .i64 (.slice q3 b.length d3) (placesL b b.length)) := Lib.hid (by
    have := Nums.of_owns HQ.out (by rw [placesL_length]) (by have := Hok.out.2.2; omega)
    exact this)
  obtain ⟨pb, po, rfl, _⟩ := NP.out.get (k := 0) (by rw [placesL_length]; omega)
  obtain ⟨qb, qo, rfl, _⟩ := NQ.out.get (k := 0) (by rw [placesL_length]; have := Hok.out.2.2; omega)
  have hb23 := Lib.hid (hb2.trans (hb3.mono hb2.size))
  have hb4 := Lib.hid (grown_below hg4)
  have START : Hid (w4.ownsRow w3.heap.size 73 1 (.slice (some ⟨w3.heap.size, 0, none⟩) a.length a.length) a.length ((indN a.length (uptoE (crN a b) 0 0)).map u32v)) := Lib.hid (by
    rw [uptoN_start, List.map_replicate]; exact hown4)
  have s23 := hb23.out.size
  have HL := Lib.hid Hok.out.2.2
  clear hown4 hg4 hb2 hb3
  go_loopw [41] (fun i wr => ∃ k : Nat, k ≤ a.length ∧ i = .int .i64 k ∧ wr.ownsRow w3.heap.size 73 1 (.slice (some ⟨w3.heap.size, 0, none⟩) a.length a.length) a.length ((indN a.length (uptoE (crN a b) k 0)).map u32v) ∧ Below w3.heap.size w3 wr)
    (fun i _ => a.length - (intOf i).toNat)
  case atStart => exact ⟨0, Nat.zero_le _, rfl, START.out, hb4.out⟩
  case round =>
    clear START
    obtain ⟨i, hi, rfl, hown, hbel⟩ := hrel
    have HI := Lib.hid hown
    have HBi := Lib.hid hbel
    clear hown hbel
    by_cases hlt : i < a.length
    · go_wp2_with fail
      go_loopw [45] (fun t wx => ∃ k : Nat, k ≤ i ∧ t = .int .i64 k ∧ wx.ownsRow w3.heap.size 73 1 (.slice (some ⟨w3.heap.size, 0, none⟩) a.length a.length) a.length ((indN a.length (uptoE (crN a b) i k)).map u32v) ∧ Below w3.heap.size w3 wx)
        (fun t _ => i - (intOf t).toNat)
      case atStart => exact ⟨0, Nat.zero_le _, rfl, HI.out, HBi.out⟩
      case round =>
        obtain ⟨k, hk, rfl, hown, hbel⟩ := hrel
        have Hown := Lib.hid hown
        have Hbel := Lib.hid hbel
        clear hown hbel HI
        by_cases hlt2 : k < i
        · have hkl : k < a.length := by omega
          have hlb := HL.out
          obtain ⟨_, _, e1, hpi⟩ := (NP.out.below Hbel.out).get (k := i) (by rw [placesL_length]; exact hlt)
          cases e1
          obtain ⟨_, _, e1, hpk⟩ := (NP.out.below Hbel.out).get (k := k) (by rw [placesL_length]; exact hkl)
          cases e1
          obtain ⟨_, _, e1, hqi⟩ := (NQ.out.below Hbel.out).get (k := i) (by rw [placesL_length]; omega)
          cases e1
          obtain ⟨_, _, e1, hqk⟩ := (NQ.out.below Hbel.out).get (k := k) (by rw [placesL_length]; omega)
          cases e1
          rw [placesL_get Hok.out.1.2.2] at hpi hpk
          rw [placesL_get Hok.out.2.1.2.2] at hqi hqk
          have hib : (i : Int) < (b.length : Int) := by omega
          have hkb : (k : Int) < (b.length : Int) := by omega
          have e0 : (0 : Int) ≤ (k : Int) := by omega
          have HE : Hid (crN a b i k = (decide (plc a i < plc a k) != decide (plc b i < plc b k))) := Lib.hid (by
            unfold crN crE
            have : decide (((i : Nat) : Int) ≠ ((k : Nat) : Int)) = true := by simp; omega
            rw [this, Bool.true_and])
          clear hlb
          go_upto_region 12 with fail
          go_cut [66] (fun s wx => s = .bool (crN a b i k) ∧ Below wr.heap.size wr wx)
          case first =>
            go_region_held3 (fun w' => w'.cell? ⟨pb, po + i, none⟩ = some (.int .i64 (plc a i)) ∧ w'.cell? ⟨pb, po + k, none⟩ = some (.int .i64 (plc a k)) ∧ w'.cell? ⟨qb, qo + i, none⟩ = some (.int .i64 (plc b i)) ∧ w'.cell? ⟨qb, qo + k, none⟩ = some (.int .i64 (plc b k)))
              (first | go_keep | exact ⟨hpi, hpk, hqi, hqk⟩)
              (fail)
            all_goals go_wp2
            all_goals go_meet
            all_goals exact ⟨by rw [HE.out]; cases decide (plc a i < plc a k) <;> cases decide (plc b i < plc b k) <;> rfl, below_dN (Below.refl _ _) _⟩
          case rest =>
            obtain ⟨rfl, hbc⟩ := hcut
            clear hpi hpk hqi hqk
            have Hown2 := Lib.hid (ownsRow_below Hown.out hbc)
            have Hbel2 := Lib.hid (Hbel.out.trans (hbc.mono Hbel.out.size))
            clear hbc
            cases hE : crN a b i k
            · have HEE := Lib.hid hE
              clear hE
              go_wp2
              go_roundw
              case rel => exact ⟨k + 1, by omega, by go_num, by rw [← uptoN_no HS.out hlt hlt2 HEE.out]; exact Hown2.out, Hbel2.out⟩
              case measure => simp [intOf]; omega
            · have HJ : Hid (∀ wz, wz = wc → Calls Tryd.prog 89 #[.slice (some ⟨w3.heap.size, 0, none⟩) a.length a.length, .int .i64 i, .int .i64 k] wz fun e w' => e = .returned (.tuple #[]) ∧ w'.ownsRow w3.heap.size 73 1 (.slice (some ⟨w3.heap.size, 0, none⟩) a.length a.length) a.length ((indN a.length (uptoE (crN a b) i (k + 1))).map u32v) ∧ wz.grownBy w' (Value.slice (some ⟨w3.heap.size, 0, none⟩) a.length a.length).ownBlock) := Lib.hid (by
                rintro wz rfl
                have h := join_any (.slice (some ⟨w3.heap.size, 0, none⟩) a.length a.length) i k (indN a.length (uptoE (crN a b) i k)) i k w3.heap.size rfl rfl (by rw [indN_length]; exact hlt) (by rw [indN_length]; omega) (by omega) (by rw [indN_length]; exact h16) (indN_lt16 h16) wz (by rw [indN_length]; exact Hown2.out)
                rw [indN_length, uptoN_yes HS.out hlt hlt2 hE] at h
                exact h)
              clear hE
              go_wp2_with (go_at_call 89; refine (HJ.out _ rfl).mono ?_; rintro e w6 ⟨rfl, ho6, hg6⟩)
              go_roundw
              case rel => exact ⟨k + 1, by omega, by go_num, ho6, below_grown Hbel2.out Hown2.out hg6 (Nat.le_refl _) Hbel2.out.size⟩
              case measure => simp [intOf]; omega
        · obtain rfl : k = i := by omega
          go_wp2
          go_roundw
          case rel => exact ⟨k + 1, by omega, by go_num, by rw [← uptoN_row HS.out]; exact Hown.out, Hbel.out⟩
          case measure => simp [intOf]; omega
    · obtain rfl : i = a.length := by omega
      go_wp2
      refine bodyPost_ret (v := .tuple #[.slice (some ⟨w3.heap.size, 0, none⟩) a.length a.length, .bool true]) (by simp [results, Tryd.results59, go_sem]) rfl ?_
      refine ⟨.slice (some ⟨w3.heap.size, 0, none⟩) a.length a.length, by first | rw [hd] | rfl, fun _ => ownsRow_base ?_ (by omega), fun h => absurd Hok.out h, hb23.out.trans (HBi.out.mono s23)⟩
      rw [← uptoN_end]
      exact HI.out

end Go.Proofs.YtbdcolhmhbfdoaaDoor
