/- Walk: the masks of a model's sets. -/
import Derived.Test.YtihlcmenfopaiaaDoorMmQ19
import Derived.Test.YtihlcmenfopaiaaDoorMmQ32
import Derived.Test.YtihlcmenfopaiaaDoorMmQ23
namespace Go.Proofs.YtihlcmenfopaiaaDoor
open Go.RowKit

/-- The vertices of the first sets. -/
def SeenI (M : List (List Int)) (k sn : Nat) : Prop := sn < 65536 ∧ ∀ i, sn.testBit i = true ↔ ∃ a, a < k ∧ (i : Int) ∈ row M a
theorem SeenI.start (M : List (List Int)) : SeenI M 0 0 := ⟨by decide, fun i => by simp⟩
theorem bit_mask {s : List Int} (h : ∀ x ∈ s, 0 ≤ x) (i : Nat) : (mask s).testBit i = true ↔ (i : Int) ∈ s := by
  rw [testBit_mask, List.any_eq_true]
  constructor
  · rintro ⟨x, hx, e⟩
    have h1 := h x hx
    have h2 : x.toNat = i := by simpa using e
    have : (i : Int) = x := by omega
    rw [this]; exact hx
  · intro k
    exact ⟨_, k, by simp⟩
theorem SeenI.put {M : List (List Int)} {k sn m : Nat} (h : SeenI M k sn) (h0 : ∀ x ∈ row M k, 0 ≤ x ∧ x < 16) (hm : m = mask (row M k)) : SeenI M (k + 1) (sn ||| m) := by
  have hm16 : m < 65536 := by rw [hm]; exact mask_lt16 _ fun x hx => (h0 x hx).2
  refine ⟨Nat.or_lt_two_pow (n := 16) h.1 hm16, fun i => ?_⟩
  rw [Nat.testBit_or, Bool.or_eq_true, h.2, hm, bit_mask fun x hx => (h0 x hx).1]
  constructor
  · rintro (⟨a, ha, h1⟩ | h1)
    · exact ⟨a, by omega, h1⟩
    · exact ⟨k, by omega, h1⟩
  · rintro ⟨a, ha, h1⟩
    by_cases e : a < k
    · exact .inl ⟨a, e, h1⟩
    · obtain rfl : a = k := by omega
      exact .inr h1
theorem SeenI.new {M : List (List Int)} {k sn m : Nat} (h : SeenI M k sn) (h0 : ∀ x ∈ row M k, 0 ≤ x ∧ x < 16) (hm : m = mask (row M k)) : m &&& sn = 0 ↔ ∀ b, b < k → ∀ x ∈ row M k, x ∉ row M b := by
  rw [and_zero_iff]
  constructor
  · intro h1 b hb x hx hxb
    have hx0 := h0 x hx
    have e : ((x.toNat : Nat) : Int) = x := by omega
    refine h1 x.toNat ⟨?_, ?_⟩
    · rw [hm, bit_mask fun x hx => (h0 x hx).1, e]; exact hx
    · rw [h.2, e]; exact ⟨b, hb, hxb⟩
  · intro h1 i ⟨h2, h3⟩
    rw [hm, bit_mask fun x hx => (h0 x hx).1] at h2
    obtain ⟨b, hb, h4⟩ := (h.2 i).1 h3
    exact h1 b hb _ h2 h4

set_option maxRecDepth 100000 in
set_option maxHeartbeats 4000000 in
theorem modelMasks_any (v mv : Value) (g M : List (List Int)) (hgl : g.length ≤ 1000000000) (w : World) (hg : Gr w v g) (hm : Gr w mv M) :
    Calls Tryd.prog 116 #[v, mv] w fun e w' => ∃ ov, e = .returned (.tuple #[ov, .bool (dec (MdW g M))]) ∧ (∃ p k c, ov = .slice p k c) ∧ (MdW g M → w'.ownsRow w.heap.size 76 1 ov M.length ((M.map mask).map u32v)) ∧ Below w.heap.size w w' := by
  have hg0 := hg
  obtain ⟨u, rfl, hr⟩ := hg
  obtain ⟨p, c, rfl, _⟩ := hr.shape
  obtain ⟨mu, rfl, hs⟩ := hm
  obtain ⟨sp, sc, rfl, _, hsc, hsl⟩ := hs.shape
  obtain ⟨W0, hW0⟩ : ∃ W0, W0 = (w.alloc (.cells #[.slice p g.length c] 29)).alloc (.cells #[.slice sp M.length sc] 41) := ⟨_, rfl⟩
  have hbA : Hid (Below w.heap.size w W0) := Lib.hid (by rw [hW0]; exact below_alloc2 _ _ _)
  have HG := Lib.hid (hg0.below hbA.out)
  have HS := Lib.hid (hs.below hbA.out)
  have BX : Hid (Box W0 w.heap.size 29 (.slice p g.length c)) := Lib.hid (by rw [hW0]; exact (Box.new _ _ _).alloc _)
  have BY : Hid (Box W0 (w.heap.size + 1) 41 (.slice sp M.length sc)) := Lib.hid (by
    rw [hW0]
    have := Box.new (w.alloc (.cells #[.slice p g.length c] 29)) (.slice sp M.length sc) 41
    rw [size_alloc] at this
    exact this)
  have SZ0 := Lib.hid (show W0.heap.size = w.heap.size + 2 by rw [hW0, size_alloc, size_alloc])
  clear hr hg0 hs
  by_cases hok : GOk g
  case neg =>
    have hd := Lib.hid (dec_false hok)
    have hno : ¬ MdW g M := fun h => hok h.1.1
    have HNO := Lib.hid hno
    have HD := Lib.hid (dec_false hno)
    clear hok hno
    go_enter Tryd.func116, Tryd.ntmps116
    go_upto_region 1 with fail
    rw [← hW0]
    clear hW0
    have hcx := BX.out.cell
    go_wp2_with (go_at_call 72; refine (implGraphOk_any _ g _ HG.out).mono ?_; rintro e w2 ⟨he, hb2⟩; rw [hd.out] at he; subst he)
    go_ret2
    exact ⟨_, by rw [HD.out]; rfl, ⟨_, _, _, rfl⟩, fun h => absurd h HNO.out, hbA.out.trans (hb2.mono hbA.out.size)⟩
  have hd := Lib.hid (dec_true hok)
  have h16 := hok.le
  have Hok := Lib.hid hok
  clear hok
  by_cases h80 : M.length ≤ 16
  case neg =>
    have h80' : ¬ (M.length : Int) ≤ 16 := by omega
    have hno : ¬ MdW g M := fun h => h80 h.1.2
    have HNO := Lib.hid hno
    have HD := Lib.hid (dec_false hno)
    clear h80 hno
    go_enter Tryd.func116, Tryd.ntmps116
    go_upto_region 1 with fail
    rw [← hW0]
    clear hW0
    have hcx := BX.out.cell
    go_wp2_with (go_at_call 72; refine (implGraphOk_any _ g _ HG.out).mono ?_; rintro e w2 ⟨he, hb2⟩; rw [hd.out] at he; subst he; have hcy := (BY.out.keep hb2).cell)
    go_ret2
    exact ⟨_, by rw [HD.out]; rfl, ⟨_, _, _, rfl⟩, fun h => absurd h HNO.out, hbA.out.trans (hb2.mono hbA.out.size)⟩
  have h80' : (M.length : Int) ≤ 16 := by omega
  have HOK16 : Hid (GOk g ∧ M.length ≤ 16) := Lib.hid ⟨Hok.out, h80⟩
  go_enter Tryd.func116, Tryd.ntmps116
  go_upto_region 1 with fail
  rw [← hW0]
  clear hW0
  have hcx := BX.out.cell
  go_upto_region 3 with (go_at_call 72; refine (implGraphOk_any _ g _ HG.out).mono ?_; rintro e w2 ⟨he, hb2⟩; rw [hd.out] at he; subst he; have hcy := (BY.out.keep hb2).cell)
  have HB2 := Lib.hid hb2
  have hcy2 := (BY.out.keep (hb2.alloc hb2.size (.cells #[] 76))).cell
  have START := Lib.hid (ownsRow_empty w2 76 1)
  have h02 := hb2.size
  clear hcx hb2 hcy
  go_wp2_with fail
  go_loopw [6, 7, 23] (fun ov sv iv wr => ∃ (i sn : Nat), i ≤ M.length ∧ iv = .int .i64 i ∧ sv = .int .u32 (sn : Int) ∧ Hid (SeenI M i sn) ∧ Hid (MdTo g M i) ∧ wr.ownsRow W0.heap.size 76 1 ov i (((M.take i).map mask).map u32v) ∧ Below W0.heap.size W0 wr) (fun _ _ iv _ => M.length - (intOf iv).toNat)
  case atStart => exact ⟨0, 0, Nat.zero_le _, rfl, rfl, Lib.hid (SeenI.start M), Lib.hid (MdTo.zero g M), ownsRow_base START.out h02, HB2.out.alloc h02 _⟩
  case round =>
    clear START hcy2
    obtain ⟨i, sn, hi, rfl, rfl, HSN, HTO, hown, hb⟩ := hrel
    have HB := Lib.hid hb
    have HO := Lib.hid hown
    by_cases hlt : i < M.length
    · obtain ⟨sb, so, rp, rc, rfl, hce, hne⟩ := (HS.out.below hb).get (k := i) hlt
      replace hce : wr.cell? ⟨sb, so + i, none⟩ = some (.slice rp (row M i).length rc) := hce
      replace hne : Nums wr 2 .i64 (.slice rp (row M i).length rc) (row M i) := hne
      have hcx := hb.at (by have := SZ0.out; omega) BX.out.cell
      have HNI := Lib.hid hne
      have hib : i < 1000000000 := by omega
      clear hne
      generalize (row M i).length = rl at hce HNI
      by_cases hset : GOk g ∧ SetIn g.length (row M i)
      · have hds := Lib.hid (dec_true hset)
        have HSET := Lib.hid hset.2
        have HRI : Hid (∀ x ∈ row M i, 0 ≤ x ∧ x < 16) := Lib.hid (fun x hx => by have := hset.2.1 x hx; omega)
        obtain ⟨m, hm⟩ : ∃ m, m = mask (row M i) := ⟨_, rfl⟩
        have HM := Lib.hid hm
        have hm16 : m < 65536 := by rw [hm]; exact mask_lt16 _ fun x hx => (HRI.out x hx).2
        have hsn16 := HSN.out.1
        have HSN2 := Lib.hid (HSN.out.put HRI.out hm)
        have HNEW := Lib.hid (HSN.out.new HRI.out hm)
        have HT : Hid ((M.take (i + 1)).map mask = (M.take i).map mask ++ [m]) := Lib.hid (by rw [take_snoc' M i hlt, List.map_append, hm]; simp [row, hlt])
        have hand := u32_and_nat m sn (by omega) (by omega)
        clear hset hm hown
        by_cases hz : m &&& sn = 0
        · have HNW := Lib.hid (HNEW.out.1 hz)
          have hor := u32_or_nat sn m (by omega) (by omega)
          rw [hz] at hand
          have HBI := Lib.hid hb
          clear hz hb
          go_wp2_with (first
            | (go_at_call 155; refine (implSetOk_any _ _ g (row M i) hgl _ (HG.out.below HB.out) HNI.out).mono ?_; rintro e w4 ⟨he4, hb4⟩; rw [hds.out] at he4; subst he4; have ho4 := ownsRow_below HO.out hb4; have HN4 := Lib.hid (HNI.out.below hb4); have HB4 := Lib.hid (HB.out.trans (hb4.mono HB.out.size)); clear hb4)
            | (go_at_call 107; refine (maskOf_any _ (row M i) HRI.out _ HN7.out).mono ?_; rintro e w8 ⟨he8, hw8⟩; rw [← HM.out] at he8; subst he8; subst hw8)
            | (go_at_call 107; refine (maskOf_any _ (row M i) HRI.out _ HN4.out).mono ?_; rintro e w5 ⟨he5, hw5⟩; rw [← HM.out] at he5; subst he5; subst hw5)
            | (at_builtin; refine wpList_app1s ty_vsets' rfl rfl rfl ho4 rfl rfl hib HB4.out.size ?_; intro b7 c8 w7 hown7 hg7 _; have HN7 := Lib.hid (HN4.out.other ho4 hg7 (by decide))))
          go_roundw
          case rel => exact ⟨i + 1, sn ||| m, by omega, by go_num, rfl, HSN2, Lib.hid (HTO.out.snoc HSET.out (fun b hb x hx => HNW.out b hb x hx)), by rw [HT.out, List.map_append]; exact hown7, below_grown HB4.out ho4 hg7 (Nat.le_refl _) HB4.out.size⟩
          case measure => simp [intOf]; omega
        · have hno : ¬ MdW g M := fun h => hz (HNEW.out.2 (fun b hb x hx => (h.2 i hlt).2 b hb x hx))
          have HNO := Lib.hid hno
          have HD := Lib.hid (dec_false hno)
          have h1' : (((m &&& sn : Nat) : Int) != 0) = true := by simp; omega
          clear hno hz hb
          generalize (m &&& sn : Nat) = ms at hand h1'
          go_wp2_with (first
            | (go_at_call 155; refine (implSetOk_any _ _ g (row M i) hgl _ (HG.out.below HB.out) HNI.out).mono ?_; rintro e w4 ⟨he4, hb4⟩; rw [hds.out] at he4; subst he4; have HN4 := Lib.hid (HNI.out.below hb4))
            | (go_at_call 107; refine (maskOf_any _ (row M i) HRI.out _ HN4.out).mono ?_; rintro e w5 ⟨he5, hw5⟩; rw [← HM.out] at he5; subst he5; subst hw5))
          go_ret2
          exact ⟨_, by rw [HD.out]; rfl, ⟨_, _, _, rfl⟩, fun h => absurd h HNO.out, hbA.out.trans ((HB.out.trans (hb4.mono HB.out.size)).mono hbA.out.size)⟩
      · have hds := Lib.hid (dec_false hset)
        have hno : ¬ MdW g M := fun h => hset ⟨h.1.1, (h.2 i hlt).1⟩
        have HNO := Lib.hid hno
        have HD := Lib.hid (dec_false hno)
        clear hset hown hb hno
        go_wp2_with (go_at_call 155; refine (implSetOk_any _ _ g (row M i) hgl _ (HG.out.below HB.out) HNI.out).mono ?_; rintro e w4 ⟨he4, hb4⟩; rw [hds.out] at he4; subst he4)
        go_ret2
        exact ⟨_, by rw [HD.out]; rfl, ⟨_, _, _, rfl⟩, fun h => absurd h HNO.out, hbA.out.trans ((HB.out.trans (hb4.mono HB.out.size)).mono hbA.out.size)⟩
    · obtain rfl : i = M.length := by omega
      have HD := Lib.hid (dec_true (show MdW g M from ⟨HOK16.out, HTO.out⟩))
      have hb0 := hbA.out.size
      rw [List.take_length] at HO
      obtain ⟨op, oc, rfl⟩ := owns_shapeE HO.out
      clear hown hb
      go_wp2_with fail
      go_ret2
      exact ⟨_, by rw [HD.out]; rfl, ⟨_, _, _, rfl⟩, fun _ => ownsRow_base HO.out (by omega), hbA.out.trans (HB.out.mono hbA.out.size)⟩

end Go.Proofs.YtihlcmenfopaiaaDoor

/- Walks: the closures with which a least cover is sought. -/
namespace Go.Proofs.YtihlcmenfopaiaaDoor
open Go.RowKit

/-- What stands below the call. -/
structure CvBase (w : World) (n : Nat) (S : List (List Int)) (sp : Option Addr) (sc ba : Nat) : Prop where
  h16 : n ≤ 16
  box : Box w ba 78 (.slice sp S.length sc)
  sl : Sl w 76 (.slice sp S.length sc) S.length ((S.map mask).map u32v)
  rng : ∀ j, j < S.length → ∀ x ∈ row S j, 0 ≤ x ∧ x < 16
  few : S.length ≤ 1000000
theorem CvBase.next {w w' : World} {n : Nat} {S : List (List Int)} {sp : Option Addr} {sc ba : Nat} (h : CvBase w n S sp sc ba) (hb : Below w.heap.size w w') : CvBase w' n S sp sc ba :=
  ⟨h.h16, h.box.keep hb, h.sl.below hb, h.rng, h.few⟩

theorem decide_dec_iff {p q : Prop} [Decidable p] (h : p ↔ q) : decide p = dec q := by
  by_cases k : p
  · rw [dec_true (h.1 k)]; simp [k]
  · rw [dec_false (fun c => k (h.2 c))]; simp [k]
def NoJ (S : List (List Int)) (s j : Nat) : Prop := s &&& mask (row S j) = 0
theorem covN_iff {S : List (List Int)} {s : Nat} (hr : ∀ j, j < S.length → ∀ x ∈ row S j, 0 ≤ x ∧ x < 16) : CovN S s ↔ ∀ j, j < S.length → ¬ NoJ S s j := by
  have key : ∀ j, j < S.length → ∀ i : Nat, (mask (row S j)).testBit i = true ↔ (i : Int) ∈ row S j := fun j hj i => by
    rw [testBit_mask, List.any_eq_true]
    constructor
    · rintro ⟨x, hx, e⟩
      have h1 := (hr j hj x hx).1
      have h2 : x.toNat = i := by simpa using e
      have : (i : Int) = x := by omega
      rw [this]; exact hx
    · intro h
      exact ⟨_, h, by simp⟩
  constructor
  · intro h j hj k
    obtain ⟨i, h1, h2⟩ := h j hj
    exact and_zero_iff.1 k i ⟨h1, (key j hj i).2 h2⟩
  · intro h j hj
    have := mt and_zero_iff.2 (h j hj)
    obtain ⟨i, hi⟩ := Classical.not_forall.1 this
    obtain ⟨h1, h2⟩ := Classical.not_not.1 hi
    exact ⟨i, h1, (key j hj i).1 h2⟩

set_option maxRecDepth 100000 in
set_option maxHeartbeats 1000000 in
theorem noJ_any (z : Int) (t s sb : Nat) (hz : z = t) (ht : t < 65536) (hs : s < 65536) (w : World) (hB : Box w sb 76 (.int .u32 (s : Int))) :
    Calls Tryd.prog 111 #[.int .u32 z, .pointer (some ⟨sb, 0, none⟩)] w fun e w' => e = .returned (.bool (dec (s &&& t = 0))) ∧ w = w' := by
  subst hz
  have hc := hB.cell
  have hand := u32_and_nat s t (by omega) (by omega)
  have HD : Hid ((((s &&& t : Nat) : Int) == 0) = dec (s &&& t = 0)) := Lib.hid (by
    by_cases h : s &&& t = 0
    · rw [dec_true h, h]; rfl
    · rw [dec_false h]; simp; exact h)
  generalize (s &&& t : Nat) = st at hand HD
  go_enter Tryd.func111, Tryd.ntmps111
  go_wp2
  go_ret
  exact ⟨ret_bool HD.out, rfl⟩

set_option maxRecDepth 100000 in
set_option maxHeartbeats 2000000 in
theorem indexCov_any (n : Nat) (S : List (List Int)) (sp : Option Addr) (sc ba s sb : Nat) (hs : s < 65536) (w : World) (hC : CvBase w n S sp sc ba) (hB : Box w sb 76 (.int .u32 (s : Int))) :
    Calls Tryd.prog 157 #[.slice sp S.length sc, .func (.func 111) #[] #[.pointer (some ⟨sb, 0, none⟩)]] w fun e w' =>
      ∃ z : Int, e = .returned (.int .i64 z) ∧ (0 ≤ z ↔ ∃ j, j < S.length ∧ NoJ S s j) ∧ w = w' := by
  have HC := Lib.hid hC
  have HB := Lib.hid hB
  have few := hC.few
  clear hC hB
  go_enter Tryd.func157, Tryd.ntmps157
  go_wp2
  go_loopw [8] (fun i wr => ∃ k : Nat, k ≤ S.length ∧ i = .int .i64 k ∧ Hid (∀ j, j < k → ¬ NoJ S s j) ∧ w = wr) (fun i _ => S.length - (intOf i).toNat)
  case atStart => exact ⟨0, Nat.zero_le _, rfl, Lib.hid (fun j hj => absurd hj (Nat.not_lt_zero _)), rfl⟩
  case round =>
    obtain ⟨k, hk, rfl, HNO, rfl⟩ := hrel
    by_cases hlt : k < S.length
    · obtain ⟨m, hm⟩ : ∃ m, m = mask (row S k) := ⟨_, rfl⟩
      have hm16 : m < 65536 := by rw [hm]; exact mask_lt16 _ fun x hx => (HC.out.rng k hlt x hx).2
      have hl2 : (S.map mask).length = S.length := List.length_map ..
      have hsl := HC.out.sl
      rw [← hl2] at hsl
      obtain ⟨qb, qo, rfl, hq⟩ := nets_cell hsl (v := k) (by rw [hl2]; exact hlt)
      have e1 : (S.map mask)[k]'(by rw [hl2]; exact hlt) = m := by rw [hm]; simp [row, hlt]
      rw [e1] at hq
      have HNJ : Hid (dec (s &&& m = 0) = dec (NoJ S s k)) := Lib.hid (by rw [hm]; rfl)
      clear hsl hl2 hm e1
      by_cases hj : NoJ S s k
      · have HJ := Lib.hid hj
        have hd := Lib.hid (dec_true hj)
        clear hj
        go_wp2_with (go_at_call 111; refine (noJ_any _ m s sb rfl hm16 hs _ HB.out).mono ?_; rintro e w2 ⟨he, hw⟩; rw [HNJ.out, hd.out] at he; subst he; subst hw)
        go_ret
        exact ⟨k, rfl, ⟨fun _ => ⟨k, hlt, HJ.out⟩, fun _ => by omega⟩, rfl⟩
      · have HJ := Lib.hid hj
        have hd := Lib.hid (dec_false hj)
        clear hj
        go_wp2_with (go_at_call 111; refine (noJ_any _ m s sb rfl hm16 hs _ HB.out).mono ?_; rintro e w2 ⟨he, hw⟩; rw [HNJ.out, hd.out] at he; subst he; subst hw)
        go_roundw
        case rel => exact ⟨k + 1, by omega, by go_num, Lib.hid (fun j hj => by
          by_cases e : j < k
          · exact HNO.out j e
          · obtain rfl : j = k := by omega
            exact HJ.out), by first | trivial | rfl⟩
        case measure => simp [intOf]; omega
    · obtain rfl : k = S.length := by omega
      go_wp2
      go_ret
      exact ⟨-1, rfl, ⟨fun h => by omega, fun ⟨j, h1, h2⟩ => absurd h2 (HNO.out j h1)⟩, rfl⟩

set_option maxRecDepth 100000 in
set_option maxHeartbeats 1000000 in
theorem containsCov_any (n : Nat) (S : List (List Int)) (sp : Option Addr) (sc ba s sb : Nat) (hs : s < 65536) (w : World) (hC : CvBase w n S sp sc ba) (hB : Box w sb 76 (.int .u32 (s : Int))) :
    Calls Tryd.prog 110 #[.slice sp S.length sc, .func (.func 111) #[] #[.pointer (some ⟨sb, 0, none⟩)]] w fun e w' =>
      e = .returned (.bool (dec (∃ j, j < S.length ∧ NoJ S s j))) ∧ w = w' := by
  have HC := Lib.hid hC
  have HB := Lib.hid hB
  clear hC hB
  go_enter Tryd.func110, Tryd.ntmps110
  go_wp2_with (go_at_call 157; refine (indexCov_any n S sp sc ba s sb hs _ HC.out HB.out).mono ?_; rintro e w2 ⟨z, rfl, hz, rfl⟩; have HZ := Lib.hid hz; clear hz)
  go_ret
  exact ⟨ret_bool (decide_dec_iff HZ.out), rfl⟩

set_option maxRecDepth 100000 in
set_option maxHeartbeats 1000000 in
theorem fitsCov_any (y : Int) (s : Nat) (hy : y = s) (n : Nat) (S : List (List Int)) (sp : Option Addr) (sc ba : Nat) (hs : s < 2 ^ n) (w : World) (h : CvBase w n S sp sc ba) :
    Calls Tryd.prog 109 #[.int .u32 y, .pointer (some ⟨ba, 0, none⟩)] w fun e w' => e = .returned (.bool (dec (CovN S s))) ∧ Below w.heap.size w w' := by
  subst hy
  have hs16 : s < 65536 := (cand_bits h.h16 hs).2
  have hbA := Lib.hid (below_alloc w (.cells #[.int .u32 (s : Int)] 76))
  have HB := Lib.hid (Box.new w (.int .u32 (s : Int)) 76)
  have H := Lib.hid (h.next hbA.out)
  have hbx := H.out.box.cell
  have HD : Hid ((!dec (∃ j, j < S.length ∧ NoJ S s j)) = dec (CovN S s)) := Lib.hid (by
    by_cases k : CovN S s
    · rw [dec_true k, dec_false (fun ⟨j, h1, h2⟩ => (covN_iff h.rng).1 k j h1 h2)]; rfl
    · rw [dec_false k, dec_true (Classical.byContradiction fun c => k ((covN_iff h.rng).2 fun j h1 h2 => c ⟨j, h1, h2⟩))]; rfl)
  obtain ⟨d, hdd⟩ : ∃ d, d = dec (∃ j, j < S.length ∧ NoJ S s j) := ⟨_, rfl⟩
  rw [← hdd] at HD
  have HDD := Lib.hid hdd
  clear h hdd
  go_enter Tryd.func109, Tryd.ntmps109
  go_wp2_with (go_at_call 110; refine (containsCov_any n S sp sc ba s w.heap.size hs16 _ H.out HB.out).mono ?_; rintro e w2 ⟨he, hw⟩; rw [← HDD.out] at he; subst he; subst hw)
  go_ret
  exact ⟨ret_bool HD.out, hbA.out⟩

/-- The call's own variables: the function and what was found. -/
structure CvW (wB : World) (ba : Nat) (z : Int) (w : World) : Prop where
  bel : Below wB.heap.size wB w
  fit : Box w wB.heap.size 130 (.func (.func 109) #[] #[.pointer (some ⟨ba, 0, none⟩)])
  fnd : Box w (wB.heap.size + 1) 76 (.int .u32 z)
theorem CvW.next {wB w w' : World} {ba : Nat} {z : Int} (h : CvW wB ba z w) (hb : Below w.heap.size w w') : CvW wB ba z w' :=
  ⟨h.bel.trans (hb.mono h.bel.size), h.fit.keep hb, h.fnd.keep hb⟩
theorem CvW.set {wB w : World} {ba : Nat} {z : Int} (h : CvW wB ba z w) (y : Int) : CvW wB ba y (w.setCell ⟨wB.heap.size + 1, 0, none⟩ (.int .u32 y)) :=
  ⟨h.bel.setCell (by show wB.heap.size ≤ wB.heap.size + 1; omega) _, h.fit.setOther (by show wB.heap.size ≠ wB.heap.size + 1; omega) _, h.fnd.set _⟩

set_option maxRecDepth 100000 in
set_option maxHeartbeats 1000000 in
theorem eachCov_any (y : Int) (s : Nat) (hy : y = s) (n : Nat) (S : List (List Int)) (sp : Option Addr) (sc ba : Nat) (hs : s < 2 ^ n) (wB w : World) (z : Int) (hB : CvBase wB n S sp sc ba) (hW : CvW wB ba z w) :
    Calls Tryd.prog 156 #[.int .u32 y, .pointer (some ⟨wB.heap.size + 1, 0, none⟩), .pointer (some ⟨wB.heap.size, 0, none⟩)] w fun e w' => e = .returned (.bool (dec (CovN S s))) ∧ CvW wB ba s w' := by
  subst hy
  have c1 := hW.fnd.cell
  have f1 := hW.fnd.free
  have HB := Lib.hid hB
  have HW2 := Lib.hid (hW.set (s : Int))
  have c2 := HW2.out.fit.cell
  have HS := Lib.hid hs
  clear hB hW hs
  go_enter Tryd.func156, Tryd.ntmps156
  go_wp2_with (go_at_call 109; refine (fitsCov_any _ s rfl n S sp sc ba HS.out _ (HB.out.next HW2.out.bel)).mono ?_; rintro e w3 ⟨rfl, hb3⟩)
  go_ret
  exact ⟨rfl, HW2.out.next hb3⟩

end Go.Proofs.YtihlcmenfopaiaaDoor
