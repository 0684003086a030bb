/- Walk: the program's WordModel of a word of so many sets. -/
import Derived.Test.YtmakhapdlkbbnaaDoorMnQ31
import Derived.Test.YtmakhapdlkbbnaaDoorMnQ23
namespace Go.Proofs.YtmakhapdlkbbnaaDoor
open Go.RowKit

set_option maxRecDepth 100000 in
set_option maxHeartbeats 1000000 in
theorem wordTop_any (z : Int) (x : Nat) (hz : z = x) (hx : x ≤ 16) (w : World) :
    Calls Tryd.prog 132 #[.int .i64 z] w fun e w' => e = .returned (.bool false) ∧ Below w.heap.size w w' := by
  subst hz
  have HD := Lib.hid (dec_true (show (0 : Int) ≤ (x : Int) ∧ (x : Int) ≤ 16 from ⟨by omega, by omega⟩))
  go_enter Tryd.func132, Tryd.ntmps132
  go_wp2_with (go_at_call 133; refine (inRange_any (x : Int) 0 16 _).mono ?_; rintro e w2 ⟨he, hw⟩; rw [HD.out] at he; subst he; subst hw)
  go_ret
  exact ⟨rfl, Below.refl _ _⟩
set_option maxRecDepth 100000 in
set_option maxHeartbeats 2000000 in
theorem indexTop_any (lv : Value) (L : List Nat) (hL : ∀ x ∈ L, x ≤ 16) (hl200 : L.length ≤ 200) (w : World) (hl : Nums w 2 .i64 lv (natInts L)) :
    Calls Tryd.prog 198 #[lv, .func (.func 132) #[] #[]] w fun e w' => e = .returned (.int .i64 (-1)) ∧ Below w.heap.size w w' := by
  obtain ⟨lp, lc, rfl, _⟩ := id hl.shape
  rw [natInts_length]
  have HL := Lib.hid hl
  have HIN := Lib.hid hL
  clear hl hL
  go_enter Tryd.func198, Tryd.ntmps198
  go_wp2
  go_loopw [8] (fun i wr => ∃ k : Nat, k ≤ L.length ∧ i = .int .i64 k ∧ Below w.heap.size w wr) (fun i _ => L.length - (intOf i).toNat)
  case atStart => exact ⟨0, Nat.zero_le _, rfl, Below.refl _ _⟩
  case round =>
    obtain ⟨k, hk, rfl, hbel⟩ := hrel
    have HBW := Lib.hid hbel
    clear hbel
    by_cases hlt : k < L.length
    · have hlr := HL.out.below HBW.out
      rw [natInts_length] at hlr
      obtain ⟨qb, qo, rfl, hq⟩ := hlr.get (k := k) (by rw [natInts_length]; exact hlt)
      have hx := HIN.out _ (List.getElem_mem hlt)
      have e1 : (natInts L)[k]'(by rw [natInts_length]; exact hlt) = ((L[k] : Nat) : Int) := by simp [natInts]
      rw [e1] at hq
      generalize L[k] = x at hq hx
      clear hlr e1
      go_wp2_with (go_at_call 132; refine (wordTop_any _ x rfl hx _).mono ?_; rintro e w2 ⟨rfl, hb2⟩)
      go_roundw
      case rel => exact ⟨k + 1, by omega, by go_num, HBW.out.trans (hb2.mono HBW.out.size)⟩
      case measure => simp [intOf]; omega
    · obtain rfl : k = L.length := by omega
      go_wp2
      go_ret
      exact ⟨rfl, HBW.out⟩
set_option maxRecDepth 100000 in
set_option maxHeartbeats 1000000 in
theorem containsTop_any (lv : Value) (L : List Nat) (hL : ∀ x ∈ L, x ≤ 16) (hl200 : L.length ≤ 200) (w : World) (hl : Nums w 2 .i64 lv (natInts L)) :
    Calls Tryd.prog 131 #[lv, .func (.func 132) #[] #[]] w fun e w' => e = .returned (.bool false) ∧ Below w.heap.size w w' := by
  have HC := Lib.hid (indexTop_any lv L hL hl200 w hl)
  obtain ⟨lp, lc, rfl, _⟩ := id hl.shape
  clear hl hL
  go_enter Tryd.func131, Tryd.ntmps131
  go_wp2_with (go_at_call 198; refine HC.out.mono ?_; rintro e w3 ⟨rfl, hb3⟩)
  go_ret
  exact ⟨rfl, hb3⟩

set_option maxRecDepth 100000 in
set_option maxHeartbeats 1000000 in
theorem slicesMax_any (lv : Value) (L : List Nat) (h1 : 1 ≤ L.length) (hl200 : L.length ≤ 200) (hL : ∀ x ∈ L, x ≤ 16) (w : World) (hl : Nums w 2 .i64 lv (natInts L)) :
    Calls Tryd.prog 134 #[lv] w fun e w' => ∃ m : Nat, e = .returned (.int .i64 (m : Int)) ∧ m ∈ L ∧ (∀ x ∈ L, x ≤ m) ∧ Below w.heap.size w w' := by
  obtain ⟨lp, lc, rfl, _⟩ := id hl.shape
  have hg : ∀ k (hk : k < L.length), ∃ b o, lp = some ⟨b, o, none⟩ ∧ w.cell? ⟨b, o + k, none⟩ = some (.int .i64 (L[k] : Nat)) := fun k hk => by
    obtain ⟨qb, qo, e, hq⟩ := Nums.get (k := k) (by have := hl; rwa [natInts_length] at this) (by rw [natInts_length]; exact hk)
    have e1 : (natInts L)[k]'(by rw [natInts_length]; exact hk) = ((L[k] : Nat) : Int) := by simp [natInts]
    rw [e1] at hq
    exact ⟨qb, qo, e, hq⟩
  rw [natInts_length]
  obtain ⟨qb, qo, rfl, hq0⟩ := hg 0 (by omega)
  have HG : Hid (∀ k (hk : k < L.length), w.cell? ⟨qb, qo + k, none⟩ = some (.int .i64 (L[k] : Nat))) := Lib.hid (fun k hk => by
    obtain ⟨b, o, e, h⟩ := hg k hk
    cases e
    exact h)
  have HIN := Lib.hid hL
  have hn1 : ¬ (L.length : Int) < 1 := by omega
  have hn0 : (0 : Int) < (L.length : Int) := by omega
  rw [Nat.add_zero] at hq0
  have HS : Hid (∃ (k m : Nat), (1 ≤ k ∧ k ≤ L.length) ∧ Value.int .i64 1 = .int .i64 (k : Int) ∧ Value.int .i64 (L[0] : Nat) = .int .i64 (m : Int) ∧ Hid (m ∈ L.take k ∧ ∀ x ∈ L.take k, x ≤ m)) := Lib.hid ⟨1, L[0], ⟨by omega, by omega⟩, rfl, rfl, Lib.hid (by
    have : L.take 1 = [L[0]] := by rw [show (1 : Nat) = 0 + 1 from rfl, take_snoc' L 0 (by omega)]; simp
    rw [this]
    simp)⟩
  clear hg hl hL
  generalize L[0] = x0 at hq0 HS
  go_enter Tryd.func134, Tryd.ntmps134
  go_wp2_with fail
  go_loopw [3, 4] (fun mv iv wr => ∃ (k m : Nat), (1 ≤ k ∧ k ≤ L.length) ∧ iv = .int .i64 (k : Int) ∧ mv = .int .i64 (m : Int) ∧ Hid (m ∈ L.take k ∧ ∀ x ∈ L.take k, x ≤ m) ∧ wr = w) (fun _ iv _ => L.length - (intOf iv).toNat)
  case atStart =>
    obtain ⟨k, m, h1, h2, h3, h4⟩ := HS.out
    exact ⟨k, m, h1, h2, h3, h4, rfl⟩
  case round =>
    clear HS hq0
    obtain ⟨k, m, ⟨hk1, hk⟩, rfl, rfl, HM, rfl⟩ := hrel
    by_cases hlt : k < L.length
    · have hq := HG.out k hlt
      have hT : L.take (k + 1) = L.take k ++ [L[k]] := take_snoc' L k hlt
      generalize L[k] = y at hq hT
      have HT := Lib.hid hT
      clear hT
      go_wp2_with fail
      go_roundw
      case rel =>
        refine ⟨k + 1, if m < y then y else m, ⟨by omega, by omega⟩, by go_num, by split <;> rfl, Lib.hid ?_, by first | trivial | rfl⟩
        rw [HT.out]
        constructor
        · split
          · simp
          · exact List.mem_append_left _ HM.out.1
        · intro x hx
          rcases List.mem_append.1 hx with h | h
          · have := HM.out.2 x h
            split <;> omega
          · obtain rfl : x = y := by simpa using h
            split <;> omega
      case measure => simp [intOf]; omega
    · obtain rfl : k = L.length := by omega
      have HM2 := HM.out
      rw [List.take_length] at HM2
      have HM3 := Lib.hid HM2
      clear HM2
      go_wp2_with fail
      go_ret
      exact ⟨m, rfl, HM3.out.1, HM3.out.2, Below.refl _ _⟩

set_option maxRecDepth 100000 in
set_option maxHeartbeats 4000000 in
theorem implWordModel_word (v : Value) (m : Nat) (wd : List Nat) (h1 : 1 ≤ wd.length) (h16 : wd.length ≤ 16) (hm16 : m ≤ 16) (hle : ∀ x ∈ wd, x ≤ m) (hin : m ∈ wd) (w : World) (hn : Nums w 2 .i64 v (natInts wd)) (hT : Tab w) :
    Calls Tryd.prog 51 #[v] w fun e w' => ∃ u, e = .returned (.tuple #[u, .bool true]) ∧ DG w' w.heap.size u (setsW m wd) ∧ Below w.heap.size w w' := by
  obtain ⟨lp, lc, rfl, _⟩ := id hn.shape
  rw [natInts_length]
  obtain ⟨W0, hW0⟩ : ∃ W0, W0 = w.alloc (.cells #[.slice none 0 0] 54) := ⟨_, rfl⟩
  have hbA : Below w.heap.size w W0 := by rw [hW0]; exact below_alloc _ _
  have HBA := Lib.hid hbA
  have HT := Lib.hid (hT.keep hbA)
  have HN := Lib.hid (hn.below hbA)
  have HX : Hid (Box W0 w.heap.size 54 (.slice none 0 0)) := Lib.hid (by rw [hW0]; exact Box.new _ _ _)
  have HSZ := Lib.hid (show W0.heap.size = w.heap.size + 1 by rw [hW0, size_alloc])
  have HLE := Lib.hid hle
  have HIN := Lib.hid hin
  have H16 : Hid (∀ x ∈ wd, x ≤ 16) := Lib.hid (fun x hx => by have := hle x hx; omega)
  have hl1 : ¬ (wd.length : Int) < 1 := by omega
  have hl2 : ¬ (16 : Int) < (wd.length : Int) := by omega
  have HMX : Hid (∀ q, q ∈ wd → (∀ x ∈ wd, x ≤ q) → q = m) := Lib.hid (fun q h2 h3 => by have := h3 m hin; have := hle q h2; omega)
  clear hn hT hbA hle hin
  rw [natInts_length] at HN
  go_enter Tryd.func51, Tryd.ntmps51
  go_upto_region 1 with fail
  rw [← hW0]
  clear hW0
  have HNW : Hid (Nums W0 2 .i64 (.slice lp wd.length lc) (natInts wd)) := Lib.hid HN.out
  go_upto_region 4 with (first
    | (go_at_call 131; refine (containsTop_any _ wd H16.out (by omega) _ HNW.out).mono ?_; rintro e w2 ⟨rfl, hb2⟩)
    | (go_at_call 134; refine (slicesMax_any _ wd h1 (by omega) H16.out _ (HNW.out.below hb2)).mono ?_; rintro e w3 ⟨q, rfl, hq1, hq2, hb3⟩; have hqm := HMX.out q hq1 hq2; subst hqm; clear hq1 hq2)
    | (at_make; refine wpList_mk ty_vsets' rfl rfl rfl q rfl rfl (by rfl) (by rfl) (by omega) ?_; intro w4 hown4 hg4))
  obtain ⟨sb, hsb⟩ : ∃ sb, sb = w3.heap.size := ⟨_, rfl⟩
  have hb4 := grown_below hg4
  have HB3 : Hid (Below W0.heap.size W0 w3) := Lib.hid (hb2.trans (hb3.mono hb2.size))
  have HB4 := Lib.hid hb4
  have hst : w4.ownsRow sb 79 1 (.slice (some ⟨sb, 0, none⟩) q q) q ((mskW q []).map u32v) := by
    rw [hsb, mskW_nil]
    simpa [u32v] using hown4
  have HST := Lib.hid hst
  rw [← hsb]
  have HSB := Lib.hid hsb
  clear hb2 hb3 hb4 hg4 hown4 hst hsb hl1 hl2
  go_wp2_with fail
  go_loopw [25] (fun kv wr => ∃ k : Nat, k ≤ wd.length ∧ kv = .int .i64 k ∧ wr.ownsRow sb 79 1 (.slice (some ⟨sb, 0, none⟩) q q) q ((mskW q (wd.take k)).map u32v) ∧ Below w3.heap.size w3 wr) (fun kv _ => wd.length - (intOf kv).toNat)
  case atStart => exact ⟨0, Nat.zero_le _, rfl, HST.out, HB4.out⟩
  case round =>
    clear HST HB4
    obtain ⟨k, hk, rfl, hown, hb⟩ := hrel
    have HO := Lib.hid hown
    have HB := Lib.hid hb
    by_cases hlt : k < wd.length
    · have hlr := (HNW.out.below HB3.out).below hb
      obtain ⟨qb, qo, rfl, hq⟩ := Nums.get (k := k) (by have := hlr; rw [← natInts_length wd] at this; exact this) (by rw [natInts_length]; exact hlt)
      have e1 : (natInts wd)[k]'(by rw [natInts_length]; exact hlt) = ((wd[k] : Nat) : Int) := by simp [natInts]
      rw [e1] at hq
      have hcq := HLE.out _ (List.getElem_mem hlt)
      have hTK : wd.take (k + 1) = wd.take k ++ [wd[k]] := take_snoc' wd k hlt
      have hlk : (wd.take k).length = k := by rw [List.length_take]; omega
      generalize wd[k] = c at hq hcq hTK
      have HTK := Lib.hid hTK
      clear hlr e1 hTK hown
      by_cases hc0 : c = 0
      · subst hc0
        have HOX : Hid (wr.ownsRow sb 79 1 (.slice (some ⟨sb, 0, none⟩) q q) q ((mskW q (wd.take (k + 1))).map u32v)) := Lib.hid (by rw [HTK.out, mskW_snoc_zero]; exact HO.out)
        clear hlk hb
        go_wp2_with fail
        go_roundw
        case rel => exact ⟨k + 1, by omega, by go_num, HOX.out, HB.out⟩
        case measure => simp [intOf]; omega
      · obtain ⟨i, rfl⟩ : ∃ i, c = i + 1 := ⟨c - 1, by omega⟩
        have hiq : i < q := by omega
        have hc1 : (0 : Int) < (i : Int) + 1 := by omega
        have hwn : IntKind.i64.wrap ((i : Int) + 1 - 1) = (i : Int) := by rw [IntKind.wrap_i64]; omega
        have hwn2 : IntKind.i64.wrap (i : Int) = (i : Int) := by rw [IntKind.wrap_i64]; omega
        have hwn3 : wrap64 (i : Int) = (i : Int) := by unfold wrap64; omega
        obtain ⟨S, hS⟩ : ∃ S, S = mskW q (wd.take k) := ⟨_, rfl⟩
        obtain ⟨b, hbb⟩ : ∃ b, b = S.getD i 0 := ⟨_, rfl⟩
        have hb16 : b < 65536 := by rw [hbb, hS]; exact mskW_lt16 (by omega)
        have hSl : S.length = q := by rw [hS]; exact mskW_length _ _
        have hci : wr.cell? ⟨sb, i, none⟩ = some (.int .u32 (b : Int)) := by
          rw [HO.out.cellAt i (by omega), ← hS, hbb]
          simp [u32v, List.getD_eq_getElem?_getD, hSl, hiq]
        have hfi := HO.out.frozenAt i
        have hk32 : k < 32 := by omega
        have h2k := pow_lt32 k hk32
        have ONE := Lib.hid (fun w => one_any (k : Int) k rfl hk32 w)
        obtain ⟨t, ht⟩ : ∃ t, t = 2 ^ k := ⟨_, rfl⟩
        rw [← ht] at h2k ONE
        have hor := u32_or_nat b t (by omega) (by omega)
        obtain ⟨x, hx⟩ : ∃ x, x = b ||| t := ⟨_, rfl⟩
        rw [← hx] at hor
        have HOX : Hid (∀ wx : World, wx = wr.setCell ⟨sb, i, none⟩ (.int .u32 (x : Int)) → wx.ownsRow sb 79 1 (.slice (some ⟨sb, 0, none⟩) q q) q ((mskW q (wd.take (k + 1))).map u32v) ∧ Below w3.heap.size w3 wx) := Lib.hid (fun wx e => by
          subst e
          refine ⟨?_, HB.out.setCell (p := ⟨sb, i, none⟩) (show w3.heap.size ≤ sb by have := HSB.out; omega) _⟩
          have h := (HO.out.stored i (.int .u32 (x : Int))).1
          rw [HTK.out, mskW_put _ hiq, hlk, ← hS, ← hbb, ← ht, ← hx]
          rw [show (S.set i x).map u32v = (S.map u32v).set i (.int .u32 (x : Int)) from by simp [u32v, List.map_set], hS]
          exact h)
        have hi1 : (i : Int) < (q : Int) := by omega
        clear hc0 hcq hS hbb hSl ht hx hlk hb
        go_upto_region 8 with fail
        go_region_law (first | (go_simp; go_at_call 135; refine (ONE.out _).mono ?_; rintro e w5 ⟨he5, hw5⟩; subst he5; subst hw5))
        all_goals go_wp2
        all_goals go_roundw
        all_goals first
          | exact ⟨k + 1, by omega, by go_num, ownsRow_below (HOX.out _ rfl).1 (below_dN (Below.refl _ _) _), below_dN (HOX.out _ rfl).2 _⟩
          | (simp [intOf]; omega)
    · obtain rfl : k = wd.length := by omega
      rw [List.take_length] at HO
      have HAL := Lib.hid (mskW_length q wd)
      have HRO := Lib.hid (rowsOf_mskW (m := q) h16)
      have HLT : Hid (∀ s ∈ mskW q wd, s < 4294967296) := Lib.hid (fun s hs => by
        obtain ⟨j, hj, rfl⟩ := List.getElem_of_mem hs
        have := mskW_lt16 (m := q) (k := j) h16
        rw [List.getD_eq_getElem?_getD, List.getElem?_eq_getElem hj] at this
        have e : (mskW q wd)[j] < 65536 := this
        omega)
      have HSL : Hid (Sl wr 79 (.slice (some ⟨sb, 0, none⟩) q q) (mskW q wd).length ((mskW q wd).map u32v)) := Lib.hid (by rw [HAL.out]; exact Sl.of_owns HO.out (by omega))
      have HBR : Hid (Below W0.heap.size W0 wr) := Lib.hid (HB3.out.trans (hb.mono HB3.out.size))
      clear hown hb
      go_wp2_with (go_at_call 96; refine (results_any _ (mskW q wd) HLT.out (by rw [HAL.out]; omega) _ HSL.out (HT.out.keep HBR.out)).mono ?_; rintro e w7 ⟨u7, rfl, hd7, hb7⟩; rw [HRO.out] at hd7; obtain ⟨rp7, rc7, e7⟩ := hd7.shape; cases e7; obtain ⟨mc, mf, ml, mB⟩ := (HX.out.keep HBR.out).keep hb7)
      have k1 := HBA.out.size
      have k2 := HBR.out.size
      refine bodyPost_ret (v := .tuple #[.agg #[.slice rp7 (setsW q wd).length rc7], .bool true]) (by simp [results, Tryd.results51, go_sem, mc]) rfl ⟨_, rfl, (hd7.setMi ⟨mc, mf, ml, mB⟩ _).base (by omega), ?_⟩
      exact (HBA.out.trans ((HBR.out.trans (hb7.mono k2)).mono k1)).setCell (by show w.heap.size ≤ w.heap.size; omega) _

end Go.Proofs.YtmakhapdlkbbnaaDoor
