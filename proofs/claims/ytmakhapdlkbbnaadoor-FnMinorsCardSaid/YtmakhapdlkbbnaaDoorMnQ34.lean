/- Walk: the program's QuotientBy of a model. -/
import Derived.Test.YtmakhapdlkbbnaaDoorMnQ32
import Derived.Test.YtmakhapdlkbbnaaDoorMnQ33
namespace Go.Proofs.YtmakhapdlkbbnaaDoor
open Go.RowKit

/-- Two sets of a model are joined. -/
noncomputable def jnE (g M : List (List Int)) (i k : Nat) : Bool := dec (i ≠ k ∧ JoinP g (row M i) (row M k))
theorem joinP_sym {g : List (List Int)} (hg : GOk g) {A B : List Int} (hA : SetIn g.length A) (h : JoinP g A B) : JoinP g B A := by
  obtain ⟨x, hx, y, hy, e⟩ := h
  have h0 := hA.1 x hx
  have := hg.both x.toNat (by omega) y e
  rw [show ((x.toNat : Nat) : Int) = x by omega] at this
  exact ⟨y, hy, x, hx, this⟩
theorem jnE_sym {g M : List (List Int)} (h : MdW g M) : SymE M.length (jnE g M) where
  sym := fun i k hi hk => by
    unfold jnE
    exact dec_congr ⟨fun h1 => ⟨Ne.symm h1.1, joinP_sym h.1.1 (h.2 i hi).1 h1.2⟩, fun h1 => ⟨Ne.symm h1.1, joinP_sym h.1.1 (h.2 k hk).1 h1.2⟩⟩
  irr := fun i _ => dec_false fun h1 => h1.1 rfl

theorem below_grownQ {B : Nat} {w0 w w' : World} {b : Nat} (h : Below B w0 w) (hg : w.grownBy w' (some b)) (hl : B ≤ b) (hB : B ≤ w.heap.size) : Below B w0 w' :=
  ⟨hg.os.trans h.os, hg.tape.trans h.tape, hg.output.trans h.output, Nat.le_trans h.size hg.size, fun k hk => (hg.block k (Nat.lt_of_lt_of_le hk hB) (fun e => by
    have e : k = b := by simpa using e
    omega)).trans (h.block k hk)⟩

set_option maxRecDepth 100000 in
set_option maxHeartbeats 1000000 in
theorem indexZero_any (lv : Value) (K : List Nat) (hK : ∀ s ∈ K, s ≠ 0) (hl200 : K.length ≤ 200) (w : World) (hl : Sl w 79 lv K.length (K.map u32v)) :
    Calls Tryd.prog 199 #[lv, .int .u32 0] w fun e w' => e = .returned (.int .i64 (-1)) ∧ Below w.heap.size w w' := by
  obtain ⟨lp, lc, rfl, _⟩ := id hl
  have HL := Lib.hid hl
  have HK := Lib.hid hK
  clear hl hK
  go_enter Tryd.func199, Tryd.ntmps199
  go_wp2
  go_loopw [8] (fun i wr => ∃ k : Nat, k ≤ K.length ∧ i = .int .i64 k ∧ wr = w) (fun i _ => K.length - (intOf i).toNat)
  case atStart => exact ⟨0, Nat.zero_le _, rfl, rfl⟩
  case round =>
    obtain ⟨k, hk, rfl, rfl⟩ := hrel
    by_cases hlt : k < K.length
    · obtain ⟨qb, qo, e, hq⟩ := nets_cell HL.out hlt
      subst e
      have hx := HK.out _ (List.getElem_mem hlt)
      generalize K[k] = x at hq hx
      have hz : ((0 : Int) == (x : Int)) = false := beq_eq_false_iff_ne.2 (by omega)
      clear hx
      go_wp2_with fail
      go_roundw
      case rel => exact ⟨k + 1, by omega, by go_num, by first | trivial | rfl⟩
      case measure => simp [intOf]; omega
    · obtain rfl : k = K.length := by omega
      go_wp2
      go_ret
      exact ⟨rfl, Below.refl _ _⟩
set_option maxRecDepth 100000 in
set_option maxHeartbeats 1000000 in
theorem containsZero_any (lv : Value) (K : List Nat) (hK : ∀ s ∈ K, s ≠ 0) (hl200 : K.length ≤ 200) (w : World) (hl : Sl w 79 lv K.length (K.map u32v)) :
    Calls Tryd.prog 136 #[lv, .int .u32 0] w fun e w' => e = .returned (.bool false) ∧ Below w.heap.size w w' := by
  have HC := Lib.hid (indexZero_any lv K hK hl200 w hl)
  obtain ⟨lp, lc, rfl, _⟩ := id hl
  clear hl hK
  go_enter Tryd.func136, Tryd.ntmps136
  go_wp2_with (go_at_call 199; refine HC.out.mono ?_; rintro e w3 ⟨rfl, hb3⟩)
  go_ret
  exact ⟨rfl, hb3⟩

set_option maxRecDepth 100000 in
set_option maxHeartbeats 4000000 in
theorem implQuotientBy_word (v mv : Value) (g M : List (List Int)) (hM : MdW g M) (h1 : 1 ≤ M.length) (hne : ∀ a, a < M.length → row M a ≠ []) (w : World) (hg : Gr w v g) (hm : Gr w mv M) (hT : Tab w) :
    Calls Tryd.prog 52 #[v, mv] w fun e w' => ∃ u, e = .returned (.tuple #[u, .bool true]) ∧ DG w' w.heap.size u (matG M.length (jnE g M)) ∧ Below w.heap.size w w' := by
  have hg0 := Lib.hid hg
  have hm0 := Lib.hid hm
  obtain ⟨_, rfl, hr⟩ := hg
  obtain ⟨ga, gc, rfl, _⟩ := hr.shape
  obtain ⟨_, rfl, hr2⟩ := hm
  obtain ⟨ma, mc, rfl, _⟩ := hr2.shape
  obtain ⟨W0, hW0, hbA, SZ0, B0, B1, B2⟩ := three_boxesM w (.slice ga g.length gc) (.slice ma M.length mc) (.slice none 0 0) 29 54 29
  have HBA := Lib.hid hbA
  have HT := Lib.hid (hT.keep hbA)
  have HG := Lib.hid (hg0.out.below hbA)
  have HM := Lib.hid (hm0.out.below hbA)
  have HX0 := Lib.hid B0
  have HX1 := Lib.hid B1
  have HX2 := Lib.hid B2
  have HSZ := Lib.hid SZ0
  have g16 := hM.1.1.le
  have HOK := Lib.hid hM.1.1
  have HMD := Lib.hid hM
  have HDT := Lib.hid (dec_true hM)
  have HSE := Lib.hid (jnE_sym hM)
  obtain ⟨m, hml⟩ : ∃ m, m = M.length := ⟨_, rfl⟩
  have m16 : m ≤ 16 := by rw [hml]; exact hM.1.2
  obtain ⟨K, hK⟩ : ∃ K, K = M.map mask := ⟨_, rfl⟩
  have hKl : K.length = m := by rw [hK, List.length_map, hml]
  have hKat : ∀ a, a < m → K.getD a 0 = mask (row M a) := fun a ha => by rw [hK]; simp [row, List.getD_eq_getElem?_getD, show a < M.length by omega]
  have hRI : ∀ a, a < m → ∀ x ∈ row M a, 0 ≤ x ∧ x < g.length := fun a ha x hx => (hM.2 a (by omega)).1.1 x hx
  have HK16 : Hid (∀ a, a < m → K.getD a 0 < 65536) := Lib.hid (fun a ha => by rw [hKat a ha]; exact mask_lt16 _ fun x hx => by have := hRI a ha x hx; omega)
  have HKN : Hid (∀ a, a < m → ∀ i, (K.getD a 0).testBit i = true → i < g.length) := Lib.hid (fun a ha i hi => by
    rw [hKat a ha, bit_mask fun x hx => (hRI a ha x hx).1] at hi
    have := hRI a ha _ hi
    omega)
  have HK0 : Hid (∀ s ∈ K, s ≠ 0) := Lib.hid (fun s hs e => by
    obtain ⟨a, ha, e2⟩ := List.getElem_of_mem hs
    rw [hKl] at ha
    have e3 : K.getD a 0 = 0 := by rw [List.getD_eq_getElem?_getD, List.getElem?_eq_getElem (by rw [hKl]; exact ha)]; exact e2.trans e
    rw [hKat a ha] at e3
    obtain ⟨x, hx⟩ := List.exists_mem_of_ne_nil _ (hne a (by omega))
    have hx0 := hRI a ha x hx
    have := (bit_mask (s := row M a) (fun x hx => (hRI a ha x hx).1) x.toNat).2 (by rw [show ((x.toNat : Nat) : Int) = x by omega]; exact hx)
    rw [e3] at this
    simp at this)
  have HJ : Hid (∀ i k, i < m → k < m → i ≠ k → dec (JnM (ofG g) (K.getD i 0) (K.getD k 0)) = jnE g M i k) := Lib.hid (fun i k hi hk hik => by
    rw [hKat i hi, hKat k hk]
    unfold jnE
    refine dec_congr ?_
    rw [joinM_iff hM.1.1 (hM.2 i (by omega)).1 (hM.2 k (by omega)).1]
    exact ⟨fun h => ⟨hik, h⟩, fun h => h.2⟩)
  have HKL := Lib.hid hKl
  have HML := Lib.hid hml
  have HKE := Lib.hid hK
  rw [← hml] at h1 ⊢ HSE
  have hm0' : ((m : Int) == 0) = false := beq_eq_false_iff_ne.2 (by omega)
  have heq0 : ∀ w, Sem.run Tryd.prog (binOp BinOp.eql 3 (.int .i64 (m : Int)) (.int .i64 0)) w = .ok (.bool false) w := fun w => congrArg (fun b => Result.ok (Value.bool b) w) hm0'
  clear hT hr hr2 hg0 hm0 hbA SZ0 B0 B1 B2 hM hne hKat hRI hK hKl hml
  go_enter Tryd.func52, Tryd.ntmps52
  go_upto_region 1 with fail
  rw [HML.out]
  rw [← hW0, ← HML.out]
  clear hW0
  have c0 := HX0.out.cell
  have c1 := HX1.out.cell
  go_upto_region 4 with (first
    | (go_at_call 129; refine (modelMasks_any _ _ g M (by omega) _ HG.out HM.out).mono ?_; rintro e w2 ⟨ov, he, ⟨op, oq, oc, rfl⟩, ho2, hb2⟩; rw [HDT.out] at he; subst he; have ho3 := ho2 HMD.out; rw [← HML.out, ← HKE.out] at ho3; have e2 : oq = m := (by obtain ⟨p1, c1, e1⟩ := owns_shapeE ho3; cases e1; rfl); subst e2; have HO2 : Hid (Sl w2 79 (.slice op oq oc) K.length (K.map u32v)) := Lib.hid (by rw [HKL.out]; exact Sl.of_owns ho3 (by omega)); have HB2 := Lib.hid hb2; have k0 := (HX0.out.keep hb2).cell; clear ho2 ho3 hb2)
    | (go_at_call 136; refine (containsZero_any _ K HK0.out (by rw [HKL.out]; omega) _ HO2.out).mono ?_; rintro e w3 ⟨rfl, hb3⟩; have k0 := hb3.at' k0; have HO3 := Lib.hid (HO2.out.below hb3); have HB3 : Hid (Below W0.heap.size W0 w3) := Lib.hid (HB2.out.trans (hb3.mono HB2.out.size)); clear hb3))
  have HG3 := Lib.hid (HG.out.below HB3.out)
  have hmk := run_mk_nets oq (by omega)
  clear c0 c1 hm0' heq0
  go_cut [8, 9] (fun s8 s9 wx => ∃ (x : Value) (ob : Nat), s8 = x ∧ s9 = .slice (some ⟨ob, 0, none⟩) oq oq ∧ Below w3.heap.size w3 wx ∧ w3.heap.size ≤ ob ∧ wx.ownsRow ob 79 1 (.slice (some ⟨ob, 0, none⟩) oq oq) oq (List.replicate oq (.int .u32 0)) ∧ (∃ base, wx.ownsRow base 79 1 x g.length ((netL g).map u32v)) ∧ x.ownBlock ≠ some ob)
  case first =>
    go_region_held3 (fun W => W.cell? ⟨w.heap.size, 0, none⟩ = some (.slice ga g.length gc))
      (first | exact k0 | go_keep | exact BWA.at' k0 | exact (below_alloc _ _).at' (BWA.at' k0) | exact (below_alloc _ _).at' k0)
      (first
        | (go_at_call 82; refine (netsOf_any _ g _ (HG3.out.below (below_dN (Below.refl _ _) 1)) HOK.out).mono ?_; rintro e w5 ⟨x5, rfl, hown5, hb5⟩; have HN5 := Lib.hid hown5; have BWA : Below w3.heap.size w3 w5 := (below_dN (Below.refl _ _) 1).trans hb5; have HO5 : Hid ((w5.alloc (.cells (Array.replicate oq (.int .u32 0)) 79)).ownsRow w5.heap.size 79 1 (.slice (some ⟨w5.heap.size, 0, none⟩) oq oq) oq (List.replicate oq (.int .u32 0))) := Lib.hid (owns_made w5 oq (by omega)); have WAY := Lib.hid (show True from trivial); clear hown5)
        | (go_at_call 82; refine (netsOf_any _ g _ (HG3.out.below (below_dN (below_alloc w3 _) 1)) HOK.out).mono ?_; rintro e w5 ⟨x5, rfl, hown5, hb5⟩; have HN5 := Lib.hid hown5; have HO5 := Lib.hid (ownsRow_below (World.ownsRow.drew (owns_made w3 oq (by omega))) hb5); have BWA : Below w3.heap.size w3 w5 := (below_dN (below_alloc w3 _) 1).trans (hb5.mono (below_alloc w3 _).size); clear hown5))
    all_goals go_wp2
    all_goals go_meet
    all_goals first
      | exact ⟨x5, _, rfl, rfl, BWA.alloc BWA.size _, BWA.size, HO5.out, ⟨_, HN5.out.alloc _⟩, fun e => by have := (HN5.out.lt _ e).2; omega⟩
      | exact ⟨x5, _, rfl, rfl, BWA, Nat.le_refl _, HO5.out, ⟨_, HN5.out⟩, fun e => by have := (HN5.out.lt _ e).1; have h2 : (w3.alloc (.cells (Array.replicate oq (.int .u32 0)) 79)).heap.size ≤ w3.heap.size := this; rw [size_alloc] at h2; omega⟩
  case rest =>
  obtain ⟨x, ob, rfl, rfl, hb5, hlo, hown, ⟨base, hnx⟩, hap⟩ := hcut
  obtain ⟨xp, xc, rfl⟩ := owns_shapeK hnx
  have KEEP : Hid (∀ w', wc.grownBy w' (some ob) → NE w' (.slice xp g.length xc) g.length (ofG g)) := Lib.hid (fun w' hgr => ⟨g16, by
    rw [indN_ofG HOK.out]
    exact Sl.of_owns (ownsRow_toM hnx fun k e => hgr.block k (hnx.lt k e).2 fun c => hap (e.trans c)) (by omega)⟩)
  have HB5 := Lib.hid hb5
  have HLO := Lib.hid hlo
  have s3 := hb5.size
  have HBK : Hid (∀ w', wc.grownBy w' (some ob) → Below w3.heap.size w3 w') := Lib.hid (fun w' hgr => below_grownQ HB5.out hgr HLO.out s3)
  have START : Hid (wc.ownsRow ob 79 1 (.slice (some ⟨ob, 0, none⟩) oq oq) oq ((indN oq (uptoE (jnE g M) 0 0)).map u32v)) := Lib.hid (by rw [uptoN_start]; simpa [u32v] using hown)
  have hcp : oq ≤ oc := by
    obtain ⟨_, _, e1, _, e3, _⟩ := HO3.out
    cases e1
    rwa [HKL.out] at e3
  have hcpi : (oq : Int) ≤ (oc : Int) := by omega
  clear hb5 hlo hown hnx hap hmk k0
  go_wp2_with fail
  go_loopw [39] (fun iv wr => ∃ i : Nat, i ≤ oq ∧ iv = .int .i64 i ∧ wr.ownsRow ob 79 1 (.slice (some ⟨ob, 0, none⟩) oq oq) oq ((indN oq (uptoE (jnE g M) i 0)).map u32v) ∧ wc.grownBy wr (some ob)) (fun iv _ => oq - (intOf iv).toNat)
  case atStart => exact ⟨0, Nat.zero_le _, rfl, START.out, grown_of_below (Below.refl _ _) _⟩
  case round =>
    clear START
    obtain ⟨i, hi, rfl, hown, hgr⟩ := hrel
    have HO := Lib.hid hown
    have HGR := Lib.hid hgr
    by_cases hlt : i < oq
    · have HSL : Hid (Sl wr 79 (.slice op oq oc) K.length (K.map u32v)) := Lib.hid (HO3.out.below (HBK.out _ hgr))
      have HSK : Hid (∀ w', wc.grownBy w' (some ob) → ∀ j, j < oq → ∃ b o, op = some ⟨b, o, none⟩ ∧ w'.cell? ⟨b, o + j, none⟩ = some (.int .u32 (K.getD j 0 : Nat))) := Lib.hid (fun w' h j hj => by
        have hs := HO3.out.below (HBK.out _ h)
        have e : (.slice op oq oc : Value) = .slice op K.length oc := by rw [HKL.out]
        rw [e] at hs
        exact sl_cell hs (by simp [u32v, HKL.out, hj, List.getD_eq_getElem?_getD]))
      obtain ⟨qb, qo, rfl, hq⟩ := HSK.out _ hgr i hlt
      have HSQ : Hid (∀ w', wc.grownBy w' (some ob) → ∀ j, j < oq → w'.cell? ⟨qb, qo + j, none⟩ = some (.int .u32 (K.getD j 0 : Nat))) := Lib.hid (fun w' h j hj => by
        obtain ⟨b, o, e, h2⟩ := HSK.out w' h j hj
        cases e
        exact h2)
      obtain ⟨si, hsi⟩ : ∃ si, si = K.getD i 0 := ⟨_, rfl⟩
      rw [← hsi] at hq
      have HSI := Lib.hid hsi
      have hic : (i : Int) ≤ (oc : Int) := by omega
      have hi16 : i < 16 := by omega
      clear hown hgr hsi HSL HSK
      go_wp2_with fail
      go_loopw [48] (fun kv wr => ∃ k : Nat, k ≤ i ∧ kv = .int .i64 k ∧ wr.ownsRow ob 79 1 (.slice (some ⟨ob, 0, none⟩) oq oq) oq ((indN oq (uptoE (jnE g M) i k)).map u32v) ∧ wc.grownBy wr (some ob)) (fun kv _ => i - (intOf kv).toNat)
      case atStart => exact ⟨0, Nat.zero_le _, rfl, HO.out, HGR.out⟩
      case round =>
        clear HO HGR hq
        obtain ⟨k, hk, rfl, hown, hgr⟩ := hrel
        have HO := Lib.hid hown
        have HGR := Lib.hid hgr
        by_cases hlk : k < i
        · have hq := HSQ.out _ hgr k (by omega)
          obtain ⟨sk, hsk⟩ : ∃ sk, sk = K.getD k 0 := ⟨_, rfl⟩
          rw [← hsk] at hq
          have hj := HJ.out i k hlt (by omega) (by omega)
          rw [← HSI.out, ← hsk] at hj
          have HSKK := Lib.hid hsk
          have HTR := Lib.hid ((HT.out.keep HB3.out).keep (HBK.out _ hgr))
          have HNX := Lib.hid (KEEP.out _ hgr)
          obtain ⟨z, hz⟩ : ∃ z, jnE g M i k = z := ⟨_, rfl⟩
          rw [hz] at hj
          have HJJ := Lib.hid hj
          have HZ := Lib.hid hz
          have CALLJ : Hid (Calls Tryd.prog 137 #[.slice xp g.length xc, .int .u32 (si : Int), .int .u32 (sk : Int)] wr fun e w' => e = .returned (.bool z) ∧ Below wr.heap.size wr w') := Lib.hid (by
            have h := areJoined_any (.slice xp g.length xc) (si : Int) (sk : Int) g.length (ofG g) si sk rfl rfl (by rw [HSI.out]; exact HK16.out i hlt) (by rw [HSKK.out]; exact HK16.out k (by omega)) (by rw [HSI.out]; exact HKN.out i hlt) (by rw [HSKK.out]; exact HKN.out k (by omega)) wr HNX.out HTR.out
            rw [HJJ.out] at h
            exact h)
          clear hsk hj hz hown hgr
          cases z
          · have HNX2 : Hid (indN oq (uptoE (jnE g M) i k) = indN oq (uptoE (jnE g M) i (k + 1))) := Lib.hid (uptoN_no HSE.out hlt hlk HZ.out)
            go_wp2_with (go_at_call 137; refine CALLJ.out.mono ?_; rintro e w7 ⟨rfl, hb7⟩)
            go_roundw
            case rel => exact ⟨k + 1, by omega, by go_num, by rw [← HNX2.out]; exact ownsRow_below HO.out hb7, grown_trans HGR.out (grown_of_below hb7 _)⟩
            case measure => simp [intOf]; omega
          · have HNX2 : Hid (joinL (indN oq (uptoE (jnE g M) i k)) i k = indN oq (uptoE (jnE g M) i (k + 1))) := Lib.hid (uptoN_yes HSE.out hlt hlk HZ.out)
            have HLN := Lib.hid (indN_length oq (uptoE (jnE g M) i k))
            go_wp2_with (first
              | (go_at_call 137; refine CALLJ.out.mono ?_; rintro e w7 ⟨rfl, hb7⟩; have HO7 := Lib.hid (ownsRow_below HO.out hb7))
              | (go_at_call 84; refine (join_any _ _ _ (indN oq (uptoE (jnE g M) i k)) i k ob rfl rfl (by rw [HLN.out]; exact hlt) (by rw [HLN.out]; omega) (by omega) (by rw [HLN.out]; omega) (indN_lt16 m16) _ (by rw [HLN.out]; exact HO7.out)).mono ?_; rintro e w8 ⟨rfl, ho8, hg8⟩; rw [HNX2.out, HLN.out] at ho8))
            go_roundw
            case rel => exact ⟨k + 1, by omega, by go_num, ho8, grown_trans (grown_trans HGR.out (grown_of_below hb7 _)) hg8⟩
            case measure => simp [intOf]; omega
        · obtain rfl : k = i := by omega
          have HO2 : Hid (wr.ownsRow ob 79 1 (.slice (some ⟨ob, 0, none⟩) oq oq) oq ((indN oq (uptoE (jnE g M) (k + 1) 0)).map u32v)) := Lib.hid (by rw [← uptoN_row HSE.out]; exact HO.out)
          clear hown hgr
          go_wp2_with fail
          go_roundw
          case rel => exact ⟨k + 1, by omega, by go_num, HO2.out, HGR.out⟩
          case measure => simp [intOf]; omega
    · obtain rfl : i = oq := by omega
      have HO2 : Hid (Sl wr 79 (.slice (some ⟨ob, 0, none⟩) i i) (indN i (jnE g M)).length ((indN i (jnE g M)).map u32v)) := Lib.hid (by
        have h := HO.out
        rw [uptoN_end] at h
        rw [indN_length]
        exact Sl.of_owns h (by omega))
      have HBR : Hid (Below W0.heap.size W0 wr) := Lib.hid (HB3.out.trans ((HBK.out _ hgr).mono HB3.out.size))
      have HRO := Lib.hid (rowsOf_indN m16 (jnE g M))
      have HLT := Lib.hid (indN_lt16 (E := jnE g M) m16)
      have HLN := Lib.hid (indN_length i (jnE g M))
      clear hown hgr
      go_wp2_with (go_at_call 83; refine (graph_any _ (indN i (jnE g M)) HLT.out (by rw [HLN.out]; omega) _ HO2.out (HT.out.keep HBR.out)).mono ?_; rintro e w9 ⟨u9, rfl, hd9, hb9⟩; rw [HRO.out] at hd9; obtain ⟨p9, c9, rfl⟩ := hd9.shape; obtain ⟨nc, nf, nl, nB⟩ := (HX2.out.keep HBR.out).keep hb9)
      have k1 := HBA.out.size
      have k2 := HBR.out.size
      refine bodyPost_ret (v := .tuple #[.agg #[.slice p9 (matG i (jnE g M)).length c9], .bool true]) (by simp [results, Tryd.results52, go_sem, nc]) rfl ⟨_, rfl, (hd9.setBox ⟨nc, nf, nl, nB⟩ _).base (by omega), ?_⟩
      exact (HBA.out.trans ((HBR.out.trans (hb9.mono k2)).mono k1)).setCell (by show w.heap.size ≤ w.heap.size + 2; omega) _

end Go.Proofs.YtmakhapdlkbbnaaDoor
