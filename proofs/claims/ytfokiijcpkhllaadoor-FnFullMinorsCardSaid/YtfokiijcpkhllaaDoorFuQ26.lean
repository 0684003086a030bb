/- Plain: the word of a model whose sets are a word's; the sets of a model of a model make a model. -/
import Derived.Test.YtfokiijcpkhllaaDoorFuQ21
import Derived.Test.YtfokiijcpkhllaaDoorFuQ25
import Derived.Test.YtfokiijcpkhllaaDoorFuQ7
import Derived.Test.YtfokiijcpkhllaaDoorFuQ24
import Derived.Test.YtfokiijcpkhllaaDoorFuQ15
import Derived.Test.YtfokiijcpkhllaaDoorFuQ1
import Derived.Deep.RegionHeld
import Derived.Deep.RegionLaw
namespace Go.Proofs.YtfokiijcpkhllaaDoor

/-- The word so far: the first i sets, and some vertices more. -/
structure WdI (wd : List Nat) (i : Nat) (T : List Nat) (F : List Nat) : Prop where
  len : F.length = wd.length
  val : ∀ x, x < wd.length → F.getD x 0 = if (1 ≤ wd.getD x 0 ∧ wd.getD x 0 ≤ i) ∨ x ∈ T then wd.getD x 0 else 0
theorem WdI.start (wd : List Nat) : WdI wd 0 [] (List.replicate wd.length 0) where
  len := by simp
  val := fun x hx => by
    rw [if_neg (by simp; omega)]
    simp [List.getD_eq_getElem?_getD, hx]
theorem WdI.put {wd : List Nat} {i x : Nat} {T F : List Nat} (h : WdI wd i T F) (hx : x ∈ setW wd i) : WdI wd i (T ++ [x]) (F.set x (i + 1)) where
  len := by rw [List.length_set, h.len]
  val := fun y hy => by
    obtain ⟨h1, h2⟩ := mem_setW.1 hx
    rw [List.getD_eq_getElem?_getD, List.getElem?_set]
    by_cases e : x = y
    · subst e
      rw [if_pos rfl, if_pos (by rw [h.len]; exact h1), if_pos (by simp)]
      show i + 1 = wd.getD x 0
      rw [h2]
    · rw [if_neg e, ← List.getD_eq_getElem?_getD, h.val y hy]
      simp [Ne.symm e]
theorem WdI.next {wd : List Nat} {i : Nat} {F : List Nat} (h : WdI wd i (setW wd i) F) : WdI wd (i + 1) [] F where
  len := h.len
  val := fun x hx => by
    rw [h.val x hx]
    by_cases e : wd.getD x 0 = i + 1
    · rw [if_pos (.inr (mem_setW.2 ⟨hx, e⟩)), if_pos (.inl (by omega))]
    · by_cases e2 : 1 ≤ wd.getD x 0 ∧ wd.getD x 0 ≤ i
      · rw [if_pos (.inl e2), if_pos (.inl (by omega))]
      · rw [if_neg (fun h1 => by
          rcases h1 with h1 | h1
          · omega
          · have := (mem_setW.1 h1).2
            omega), if_neg (fun h1 => by
          rcases h1 with h1 | h1
          · omega
          · simp at h1)]
theorem WdI.all {wd : List Nat} {m : Nat} {F : List Nat} (h : WdI wd m [] F) (hm : ∀ x ∈ wd, x ≤ m) : F = wd := by
  refine List.ext_getElem h.len fun x h1 h2 => ?_
  have := h.val x h2
  rw [List.getD_eq_getElem?_getD, List.getElem?_eq_getElem h1, List.getD_eq_getElem?_getD, List.getElem?_eq_getElem h2] at this
  have hle := hm _ (List.getElem_mem h2)
  simp only [Option.getD_some] at this
  rw [this]
  by_cases e : wd[x] = 0
  · rw [if_neg (fun h3 => by
      rcases h3 with h3 | h3
      · omega
      · simp at h3), e]
  · rw [if_pos (.inl (by omega))]
theorem map_mask_setsW (m : Nat) (w : List Nat) : (setsW m w).map mask = mskW m w := by
  unfold setsW mskW
  rw [List.map_map]
  rfl

theorem setIn_setW {n : Nat} {w : List Nat} (hn : w.length = n) (k : Nat) : SetIn n (natInts (setW w k)) := by
  refine ⟨fun x hx => ?_, natInts_rising (setW_rising w k)⟩
  obtain ⟨i, hi, rfl⟩ := mem_natInts.1 hx
  have := (mem_setW.1 hi).1
  omega
/-- What the search finds is a model. -/
theorem fit_mdOk {g p : List (List Int)} {w : List Nat} (hg : GOk g) (hp : GOk p) (hn : w.length = g.length) (h : FitW p.length (ofG g) (ofG p) w) : MdOk g p (setsW p.length w) := by
  have hlen := setsW_length p.length w
  refine ⟨⟨⟨⟨⟨hg, by rw [hlen]; exact hp.le⟩, fun a ha => ?_⟩, hp⟩, hlen⟩, fun a ha => ?_, fun e he => ?_⟩
  · rw [hlen] at ha
    rw [row_setsW ha]
    refine ⟨setIn_setW hn a, fun b hb x hx hxb => ?_⟩
    rw [row_setsW (show b < p.length by omega)] at hxb
    obtain ⟨i, hi, rfl⟩ := mem_natInts.1 hx
    obtain ⟨j, hj, e⟩ := mem_natInts.1 hxb
    obtain rfl : i = j := by omega
    have := setW_disj hi hj
    omega
  · rw [hlen] at ha
    rw [row_setsW ha]
    refine ⟨⟨hg, setIn_setW hn a⟩, ?_⟩
    have e : (natInts (setW w a)).map Int.toNat = setW w a := by
      unfold natInts
      rw [List.map_map]
      conv => rhs; rw [← List.map_id (setW w a)]
      exact List.map_congr_left fun x _ => by simp
    rw [e]
    exact h.1 a ha
  · obtain ⟨h1, h2, h3, h4⟩ := mem_edN (Nat.le_refl _) he
    rw [row_setsW (show e.1 < p.length by omega), row_setsW (show e.2 < p.length by omega)]
    obtain ⟨x, hx, y, hy, hE⟩ := h.2 e.1 (by omega) e.2 (by omega) h4
    refine ⟨x, mem_natInts.2 ⟨x, hx, rfl⟩, y, mem_natInts.2 ⟨y, hy, rfl⟩, ?_⟩
    simpa [ofG] using hE

end Go.Proofs.YtfokiijcpkhllaaDoor

/- Walk: the masks of a model's sets. -/
namespace Go.Proofs.YtfokiijcpkhllaaDoor
open Go.RowKit

/-- The vertices of the first sets. -/
def SeenI (M : List (List Int)) (k sn : Nat) : Prop := sn < 65536 ∧ ∀ i, sn.testBit i = true ↔ ∃ a, a < k ∧ (i : Int) ∈ row M a
theorem SeenI.start (M : List (List Int)) : SeenI M 0 0 := ⟨by decide, fun i => by simp⟩
theorem bit_mask {s : List Int} (h : ∀ x ∈ s, 0 ≤ x) (i : Nat) : (mask s).testBit i = true ↔ (i : Int) ∈ s := by
  rw [testBit_mask, List.any_eq_true]
  constructor
  · rintro ⟨x, hx, e⟩
    have h1 := h x hx
    have h2 : x.toNat = i := by simpa using e
    have : (i : Int) = x := by omega
    rw [this]; exact hx
  · intro k
    exact ⟨_, k, by simp⟩
theorem SeenI.put {M : List (List Int)} {k sn m : Nat} (h : SeenI M k sn) (h0 : ∀ x ∈ row M k, 0 ≤ x ∧ x < 16) (hm : m = mask (row M k)) : SeenI M (k + 1) (sn ||| m) := by
  have hm16 : m < 65536 := by rw [hm]; exact mask_lt16 _ fun x hx => (h0 x hx).2
  refine ⟨Nat.or_lt_two_pow (n := 16) h.1 hm16, fun i => ?_⟩
  rw [Nat.testBit_or, Bool.or_eq_true, h.2, hm, bit_mask fun x hx => (h0 x hx).1]
  constructor
  · rintro (⟨a, ha, h1⟩ | h1)
    · exact ⟨a, by omega, h1⟩
    · exact ⟨k, by omega, h1⟩
  · rintro ⟨a, ha, h1⟩
    by_cases e : a < k
    · exact .inl ⟨a, e, h1⟩
    · obtain rfl : a = k := by omega
      exact .inr h1
theorem SeenI.new {M : List (List Int)} {k sn m : Nat} (h : SeenI M k sn) (h0 : ∀ x ∈ row M k, 0 ≤ x ∧ x < 16) (hm : m = mask (row M k)) : m &&& sn = 0 ↔ ∀ b, b < k → ∀ x ∈ row M k, x ∉ row M b := by
  rw [and_zero_iff]
  constructor
  · intro h1 b hb x hx hxb
    have hx0 := h0 x hx
    have e : ((x.toNat : Nat) : Int) = x := by omega
    refine h1 x.toNat ⟨?_, ?_⟩
    · rw [hm, bit_mask fun x hx => (h0 x hx).1, e]; exact hx
    · rw [h.2, e]; exact ⟨b, hb, hxb⟩
  · intro h1 i ⟨h2, h3⟩
    rw [hm, bit_mask fun x hx => (h0 x hx).1] at h2
    obtain ⟨b, hb, h4⟩ := (h.2 i).1 h3
    exact h1 b hb _ h2 h4

set_option maxRecDepth 100000 in
set_option maxHeartbeats 4000000 in
theorem modelMasks_any (v mv : Value) (g M : List (List Int)) (hgl : g.length ≤ 1000000000) (w : World) (hg : Gr w v g) (hm : Gr w mv M) :
    Calls Tryd.prog 92 #[v, mv] w fun e w' => ∃ ov, e = .returned (.tuple #[ov, .bool (dec (MdW g M))]) ∧ (∃ p k c, ov = .slice p k c) ∧ (MdW g M → w'.ownsRow w.heap.size 64 1 ov M.length ((M.map mask).map u32v)) ∧ Below w.heap.size w w' := by
  have hg0 := hg
  obtain ⟨u, rfl, hr⟩ := hg
  obtain ⟨p, c, rfl, _⟩ := hr.shape
  obtain ⟨mu, rfl, hs⟩ := hm
  obtain ⟨sp, sc, rfl, _, hsc, hsl⟩ := hs.shape
  obtain ⟨W0, hW0⟩ : ∃ W0, W0 = (w.alloc (.cells #[.slice p g.length c] 29)).alloc (.cells #[.slice sp M.length sc] 49) := ⟨_, rfl⟩
  have hbA : Hid (Below w.heap.size w W0) := Lib.hid (by rw [hW0]; exact below_alloc2 _ _ _)
  have HG := Lib.hid (hg0.below hbA.out)
  have HS := Lib.hid (hs.below hbA.out)
  have BX : Hid (Box W0 w.heap.size 29 (.slice p g.length c)) := Lib.hid (by rw [hW0]; exact (Box.new _ _ _).alloc _)
  have BY : Hid (Box W0 (w.heap.size + 1) 49 (.slice sp M.length sc)) := Lib.hid (by
    rw [hW0]
    have := Box.new (w.alloc (.cells #[.slice p g.length c] 29)) (.slice sp M.length sc) 49
    rw [size_alloc] at this
    exact this)
  have SZ0 := Lib.hid (show W0.heap.size = w.heap.size + 2 by rw [hW0, size_alloc, size_alloc])
  clear hr hg0 hs
  by_cases hok : GOk g
  case neg =>
    have hd := Lib.hid (dec_false hok)
    have hno : ¬ MdW g M := fun h => hok h.1.1
    have HNO := Lib.hid hno
    have HD := Lib.hid (dec_false hno)
    clear hok hno
    go_enter Tryd.func92, Tryd.ntmps92
    go_upto_region 1 with fail
    rw [← hW0]
    clear hW0
    have hcx := BX.out.cell
    go_wp2_with (go_at_call 38; refine (implGraphOk_any _ g _ HG.out).mono ?_; rintro e w2 ⟨he, hb2⟩; rw [hd.out] at he; subst he)
    go_ret2
    exact ⟨_, by rw [HD.out]; rfl, ⟨_, _, _, rfl⟩, fun h => absurd h HNO.out, hbA.out.trans (hb2.mono hbA.out.size)⟩
  have hd := Lib.hid (dec_true hok)
  have h16 := hok.le
  have Hok := Lib.hid hok
  clear hok
  by_cases h80 : M.length ≤ 16
  case neg =>
    have h80' : ¬ (M.length : Int) ≤ 16 := by omega
    have hno : ¬ MdW g M := fun h => h80 h.1.2
    have HNO := Lib.hid hno
    have HD := Lib.hid (dec_false hno)
    clear h80 hno
    go_enter Tryd.func92, Tryd.ntmps92
    go_upto_region 1 with fail
    rw [← hW0]
    clear hW0
    have hcx := BX.out.cell
    go_wp2_with (go_at_call 38; refine (implGraphOk_any _ g _ HG.out).mono ?_; rintro e w2 ⟨he, hb2⟩; rw [hd.out] at he; subst he; have hcy := (BY.out.keep hb2).cell)
    go_ret2
    exact ⟨_, by rw [HD.out]; rfl, ⟨_, _, _, rfl⟩, fun h => absurd h HNO.out, hbA.out.trans (hb2.mono hbA.out.size)⟩
  have h80' : (M.length : Int) ≤ 16 := by omega
  have HOK16 : Hid (GOk g ∧ M.length ≤ 16) := Lib.hid ⟨Hok.out, h80⟩
  go_enter Tryd.func92, Tryd.ntmps92
  go_upto_region 1 with fail
  rw [← hW0]
  clear hW0
  have hcx := BX.out.cell
  go_upto_region 3 with (go_at_call 38; refine (implGraphOk_any _ g _ HG.out).mono ?_; rintro e w2 ⟨he, hb2⟩; rw [hd.out] at he; subst he; have hcy := (BY.out.keep hb2).cell)
  have HB2 := Lib.hid hb2
  have hcy2 := (BY.out.keep (hb2.alloc hb2.size (.cells #[] 64))).cell
  have START := Lib.hid (ownsRow_empty w2 64 1)
  have h02 := hb2.size
  clear hcx hb2 hcy
  go_wp2_with fail
  go_loopw [6, 7, 23] (fun ov sv iv wr => ∃ (i sn : Nat), i ≤ M.length ∧ iv = .int .i64 i ∧ sv = .int .u32 (sn : Int) ∧ Hid (SeenI M i sn) ∧ Hid (MdTo g M i) ∧ wr.ownsRow W0.heap.size 64 1 ov i (((M.take i).map mask).map u32v) ∧ Below W0.heap.size W0 wr) (fun _ _ iv _ => M.length - (intOf iv).toNat)
  case atStart => exact ⟨0, 0, Nat.zero_le _, rfl, rfl, Lib.hid (SeenI.start M), Lib.hid (MdTo.zero g M), ownsRow_base START.out h02, HB2.out.alloc h02 _⟩
  case round =>
    clear START hcy2
    obtain ⟨i, sn, hi, rfl, rfl, HSN, HTO, hown, hb⟩ := hrel
    have HB := Lib.hid hb
    have HO := Lib.hid hown
    by_cases hlt : i < M.length
    · obtain ⟨sb, so, rp, rc, rfl, hce, hne⟩ := (HS.out.below hb).get (k := i) hlt
      replace hce : wr.cell? ⟨sb, so + i, none⟩ = some (.slice rp (row M i).length rc) := hce
      replace hne : Nums wr 2 .i64 (.slice rp (row M i).length rc) (row M i) := hne
      have hcx := hb.at (by have := SZ0.out; omega) BX.out.cell
      have HNI := Lib.hid hne
      have hib : i < 1000000000 := by omega
      clear hne
      generalize (row M i).length = rl at hce HNI
      by_cases hset : GOk g ∧ SetIn g.length (row M i)
      · have hds := Lib.hid (dec_true hset)
        have HSET := Lib.hid hset.2
        have HRI : Hid (∀ x ∈ row M i, 0 ≤ x ∧ x < 16) := Lib.hid (fun x hx => by have := hset.2.1 x hx; omega)
        obtain ⟨m, hm⟩ : ∃ m, m = mask (row M i) := ⟨_, rfl⟩
        have HM := Lib.hid hm
        have hm16 : m < 65536 := by rw [hm]; exact mask_lt16 _ fun x hx => (HRI.out x hx).2
        have hsn16 := HSN.out.1
        have HSN2 := Lib.hid (HSN.out.put HRI.out hm)
        have HNEW := Lib.hid (HSN.out.new HRI.out hm)
        have HT : Hid ((M.take (i + 1)).map mask = (M.take i).map mask ++ [m]) := Lib.hid (by rw [take_snoc' M i hlt, List.map_append, hm]; simp [row, hlt])
        have hand := u32_and_nat m sn (by omega) (by omega)
        clear hset hm hown
        by_cases hz : m &&& sn = 0
        · have HNW := Lib.hid (HNEW.out.1 hz)
          have hor := u32_or_nat sn m (by omega) (by omega)
          rw [hz] at hand
          have HBI := Lib.hid hb
          clear hz hb
          go_wp2_with (first
            | (go_at_call 131; refine (implSetOk_any _ _ g (row M i) hgl _ (HG.out.below HB.out) HNI.out).mono ?_; rintro e w4 ⟨he4, hb4⟩; rw [hds.out] at he4; subst he4; have ho4 := ownsRow_below HO.out hb4; have HN4 := Lib.hid (HNI.out.below hb4); have HB4 := Lib.hid (HB.out.trans (hb4.mono HB.out.size)); clear hb4)
            | (go_at_call 107; refine (maskOf_any _ (row M i) HRI.out _ HN7.out).mono ?_; rintro e w8 ⟨he8, hw8⟩; rw [← HM.out] at he8; subst he8; subst hw8)
            | (go_at_call 107; refine (maskOf_any _ (row M i) HRI.out _ HN4.out).mono ?_; rintro e w5 ⟨he5, hw5⟩; rw [← HM.out] at he5; subst he5; subst hw5)
            | (at_builtin; refine wpList_app1s ty_vsets' rfl rfl rfl ho4 rfl rfl hib HB4.out.size ?_; intro b7 c8 w7 hown7 hg7 _; have HN7 := Lib.hid (HN4.out.other ho4 hg7 (by decide))))
          go_roundw
          case rel => exact ⟨i + 1, sn ||| m, by omega, by go_num, rfl, HSN2, Lib.hid (HTO.out.snoc HSET.out (fun b hb x hx => HNW.out b hb x hx)), by rw [HT.out, List.map_append]; exact hown7, below_grown HB4.out ho4 hg7 (Nat.le_refl _) HB4.out.size⟩
          case measure => simp [intOf]; omega
        · have hno : ¬ MdW g M := fun h => hz (HNEW.out.2 (fun b hb x hx => (h.2 i hlt).2 b hb x hx))
          have HNO := Lib.hid hno
          have HD := Lib.hid (dec_false hno)
          have h1' : (((m &&& sn : Nat) : Int) != 0) = true := by simp; omega
          clear hno hz hb
          generalize (m &&& sn : Nat) = ms at hand h1'
          go_wp2_with (first
            | (go_at_call 131; refine (implSetOk_any _ _ g (row M i) hgl _ (HG.out.below HB.out) HNI.out).mono ?_; rintro e w4 ⟨he4, hb4⟩; rw [hds.out] at he4; subst he4; have HN4 := Lib.hid (HNI.out.below hb4))
            | (go_at_call 107; refine (maskOf_any _ (row M i) HRI.out _ HN4.out).mono ?_; rintro e w5 ⟨he5, hw5⟩; rw [← HM.out] at he5; subst he5; subst hw5))
          go_ret2
          exact ⟨_, by rw [HD.out]; rfl, ⟨_, _, _, rfl⟩, fun h => absurd h HNO.out, hbA.out.trans ((HB.out.trans (hb4.mono HB.out.size)).mono hbA.out.size)⟩
      · have hds := Lib.hid (dec_false hset)
        have hno : ¬ MdW g M := fun h => hset ⟨h.1.1, (h.2 i hlt).1⟩
        have HNO := Lib.hid hno
        have HD := Lib.hid (dec_false hno)
        clear hset hown hb hno
        go_wp2_with (go_at_call 131; refine (implSetOk_any _ _ g (row M i) hgl _ (HG.out.below HB.out) HNI.out).mono ?_; rintro e w4 ⟨he4, hb4⟩; rw [hds.out] at he4; subst he4)
        go_ret2
        exact ⟨_, by rw [HD.out]; rfl, ⟨_, _, _, rfl⟩, fun h => absurd h HNO.out, hbA.out.trans ((HB.out.trans (hb4.mono HB.out.size)).mono hbA.out.size)⟩
    · obtain rfl : i = M.length := by omega
      have HD := Lib.hid (dec_true (show MdW g M from ⟨HOK16.out, HTO.out⟩))
      have hb0 := hbA.out.size
      rw [List.take_length] at HO
      obtain ⟨op, oc, rfl⟩ := owns_shapeE HO.out
      clear hown hb
      go_wp2_with fail
      go_ret2
      exact ⟨_, by rw [HD.out]; rfl, ⟨_, _, _, rfl⟩, fun _ => ownsRow_base HO.out (by omega), hbA.out.trans (HB.out.mono hbA.out.size)⟩

end Go.Proofs.YtfokiijcpkhllaaDoor

/- Walk: the program's search of a model, recursive on the block of the search (printed by wip/mkMiJ.py). -/
namespace Go.Proofs.YtfokiijcpkhllaaDoor
open Go.RowKit

set_option maxRecDepth 100000 in
set_option maxHeartbeats 4000000 in
theorem minGrow_any {w0 : World} {xb sb n m : Nat} {hv : Value} {pp wp np : Option Addr} {pc wc nc nN : Nat} {E F : Nat → Nat → Bool} {NR : List Nat} (H : MsH w0 xb sb n m hv pp wp np pc wc nc nN E F NR)
    (hE : ∀ x y, E x y = true → E y x = true) (hF : ∀ i k, F i k = F k i) (hFi : ∀ i, F i i = false) : ∀ (r : Nat) (wd : List Nat) (zv ze : Int) (w : World), zv = wd.length → wd.length + r = n → ze = lackW m wd → MsI w0 sb m w (mskW m wd) →
    Calls Tryd.prog 135 #[.pointer (some ⟨xb, 0, none⟩), .int .i64 zv, .int .i64 ze] w fun e w' => e = .returned (.bool (findN m (FitW m E F) r wd).isSome) ∧ MsI w0 sb m w' (mskW m ((findN m (FitW m E F) r wd).getD wd)) := by
  intro r
  have HH := Lib.hid H
  have HE := Lib.hid hE
  have HF := Lib.hid hF
  have HFI := Lib.hid hFi
  have n8 := H.n8
  have m8 := H.m8
  obtain ⟨hp, hc, ehv⟩ := H.hl
  subst ehv
  clear H hE hF hFi
  induction r using Nat.strongRecOn with
  | ind r ih =>
  intro wd zv ze w hzv hlen hze hI
  obtain ⟨v, hvl⟩ : ∃ v, v = wd.length := ⟨_, rfl⟩
  obtain ⟨em, hem⟩ : ∃ em, em = lackW m wd := ⟨_, rfl⟩
  have hem8 : em ≤ m := by rw [hem]; exact lackW_le m wd
  rw [← hvl] at hzv hlen
  rw [← hem] at hze
  subst hzv
  subst hze
  have IH := Lib.hid ih
  have HV := Lib.hid hvl
  have HEM := Lib.hid hem
  have HI := Lib.hid hI
  have c0 := (HH.out.blk.to (hI.block HH.out.blk.lt HH.out.ne)).c0
  have hwr : IntKind.i64.wrap ((n : Int) - (v : Int)) = (r : Int) := by rw [IntKind.wrap_i64]; omega
  clear ih hvl hem hI
  by_cases hlk : r < em
  · have HR := Lib.hid (findN_lack (Fit := FitW m E F) (show r < lackW m wd by rw [← HEM.out]; exact hlk))
    have hgt : (r : Int) < (em : Int) := by omega
    go_enter Tryd.func135, Tryd.ntmps135
    go_wp2_with fail
    go_ret
    exact ⟨by rw [HR.out]; rfl, by rw [HR.out]; exact HI.out⟩
  have hgt : ¬ (r : Int) < (em : Int) := by omega
  have HLK0 : Hid (¬ r < lackW m wd) := Lib.hid (by rw [← HEM.out]; exact hlk)
  by_cases hr0 : r = 0
  · subst hr0
    obtain rfl : v = n := by omega
    have HR := Lib.hid (findN_leaf (Fit := FitW m E F) HLK0.out)
    go_enter Tryd.func135, Tryd.ntmps135
    go_wp2_with (go_at_call 149; refine (minFits_any HH.out HE.out HF.out HFI.out wd HV.out.symm HI.out).mono ?_; rintro e w2 ⟨he, hb2⟩; subst he)
    go_ret
    rw [HR.out]
    by_cases hf : FitW m E F wd
    · rw [dec_true hf]; exact ⟨rfl, HI.out.next hb2⟩
    · rw [dec_false hf]; exact ⟨rfl, HI.out.next hb2⟩
  obtain ⟨r', rfl⟩ : ∃ r', r = r' + 1 := ⟨r - 1, by omega⟩
  have HLK := HLK0
  have hvn : ((v : Int) == (n : Int)) = false := beq_eq_false_iff_ne.2 (by omega)
  have hw1 : IntKind.i64.wrap ((v : Int) + 1) = (v : Int) + 1 := by rw [IntKind.wrap_i64]; omega
  have HL0 : Hid (lackW m (wd ++ [0]) = em) := Lib.hid (by rw [lackW_old (.inl rfl)]; exact HEM.out.symm)
  have HI0 : Hid (MsI w0 sb m w (mskW m (wd ++ [0]))) := Lib.hid (by rw [mskW_snoc_zero]; exact HI.out)
  obtain ⟨o, ho⟩ : ∃ o, findN m (FitW m E F) r' (wd ++ [0]) = o := ⟨_, rfl⟩
  have HO := Lib.hid ho
  clear ho hr0 hlk
  cases o with
  | some y =>
    have HR : Hid (findN m (FitW m E F) (r' + 1) wd = some y) := Lib.hid (by rw [findN_node HLK.out]; exact fsome_stop (k := 0) (by simp) (by omega) HO.out)
    go_enter Tryd.func135, Tryd.ntmps135
    go_wp2_with (go_at_call 135; refine (IH.out r' (by omega) (wd ++ [0]) _ _ _ (by rw [List.length_append]; have := HV.out; simp; omega) (by rw [List.length_append]; have := HV.out; simp; omega) (by rw [HL0.out]) HI0.out).mono ?_; rintro e w6 ⟨he6, hm6⟩; rw [HO.out] at he6 hm6; replace he6 : e = .returned (.bool true) := he6; subst he6; have HM6 : Hid (MsI w0 sb m w6 (mskW m y)) := Lib.hid hm6; clear hm6)
    go_ret
    exact ⟨by rw [HR.out]; rfl, by rw [HR.out]; exact HM6.out⟩
  | none =>
  have HN0 : Hid ((List.range (0 + 1)).findSome? (fun k => findN m (FitW m E F) r' (wd ++ [k])) = none) := Lib.hid (fsome_skip (k := 0) (by simp) HO.out)
  go_enter Tryd.func135, Tryd.ntmps135
  go_upto_region 7 with (go_at_call 135; refine (IH.out r' (by omega) (wd ++ [0]) _ _ _ (by rw [List.length_append]; have := HV.out; simp; omega) (by rw [List.length_append]; have := HV.out; simp; omega) (by rw [HL0.out]) HI0.out).mono ?_; rintro e w6 ⟨he6, hm6⟩; rw [HO.out] at he6 hm6; replace he6 : e = .returned (.bool false) := he6; subst he6; have HM6 : Hid (MsI w0 sb m w6 (mskW m wd)) := Lib.hid (by rw [← mskW_snoc_zero m wd]; exact hm6); clear hm6)
  have c4 := (HH.out.blk.to (HM6.out.block HH.out.blk.lt HH.out.ne)).c4
  clear c0 HO hwr hgt hvn
  go_wp2_with fail
  go_loopw [38] (fun iv wr => ∃ i : Nat, i ≤ m ∧ iv = .int .i64 i ∧ Hid ((List.range (i + 1)).findSome? (fun k => findN m (FitW m E F) r' (wd ++ [k])) = none) ∧ MsI w0 sb m wr (mskW m wd)) (fun iv _ => m - (intOf iv).toNat)
  case atStart => exact ⟨0, Nat.zero_le _, rfl, HN0.out |> Lib.hid, HM6.out⟩
  case round =>
    clear c4
    obtain ⟨i, hi, rfl, HNO, hmi⟩ := hrel
    by_cases hlt : i < m
    · have c4 := (HH.out.blk.to (hmi.block HH.out.blk.lt HH.out.ne)).c4
      have hci := hmi.cell hlt
      have hfi := hmi.frz i
      obtain ⟨b, hb⟩ : ∃ b, b = (mskW m wd).getD i 0 := ⟨_, rfl⟩
      rw [← hb] at hci
      have hb16 : b < 65536 := by rw [hb]; exact mskW_lt16 (by have := HV.out; omega)
      have hv32 : v < 32 := by omega
      have h2v := pow_lt32 v hv32
      have hl := lackW_put wd hlt
      rw [← hb, ← HEM.out] at hl
      have ONE := Lib.hid (fun w => one_any (v : Int) v rfl hv32 w)
      obtain ⟨t, ht⟩ : ∃ t, t = 2 ^ v := ⟨_, rfl⟩
      rw [← ht] at h2v ONE
      have hor := u32_or_nat b t (by omega) (by omega)
      obtain ⟨x, hx⟩ : ∃ x, x = b ||| t := ⟨_, rfl⟩
      rw [← hx] at hor
      have HPUT : Hid (mskW m (wd ++ [i + 1]) = (mskW m wd).set i x) := Lib.hid (by rw [mskW_put wd hlt, hx, ht, hb, HV.out])
      have HSB : Hid (((mskW m wd).set i x).set i b = mskW m wd) := Lib.hid (by rw [hb]; exact set_back _ i x 0 (by rw [mskW_length]; exact hlt))
      have HMI := Lib.hid hmi
      have HL := Lib.hid hl
      clear hmi hb hl ht hx
      by_cases hb0 : b = 0
      · have hz : ((b : Int) == 0) = true := by rw [hb0]; rfl
        have HLZ : Hid (((em : Int) - 1) = (lackW m (wd ++ [i + 1]) : Int)) := Lib.hid (by have := HL.out.1 hb0; omega)
        have hwe : IntKind.i64.wrap ((em : Int) - 1) = (em : Int) - 1 := by rw [IntKind.wrap_i64]; omega
        clear hb0
        have HMX : Hid (∀ wx : World, wx = wr.setCell ⟨sb, i, none⟩ (.int .u32 (x : Int)) → MsI w0 sb m wx (mskW m (wd ++ [i + 1]))) := Lib.hid (fun wx e => by rw [e, HPUT.out]; exact HMI.out.put i x)
        go_upto_region 14 with fail
        go_cut [63] (fun s63 wx => MsI w0 sb m wx (mskW m (wd ++ [i + 1])))
        case first =>
          go_region_law (first | (go_simp; go_at_call 74; refine (ONE.out _).mono ?_; rintro e w5 ⟨he5, hw5⟩; subst he5; subst hw5))
          all_goals go_wp2
          all_goals go_meet
          all_goals exact (HMX.out _ rfl).next (below_dN (Below.refl _ _) _)
        case rest =>
        have HMC := Lib.hid hcut
        clear hcut c4 hci hfi hor
        obtain ⟨o, ho⟩ : ∃ o, findN m (FitW m E F) r' (wd ++ [i + 1]) = o := ⟨_, rfl⟩
        have HO := Lib.hid ho
        clear ho
        cases o with
        | some y =>
          have HR : Hid (findN m (FitW m E F) (r' + 1) wd = some y) := Lib.hid (by rw [findN_node HLK.out]; exact fsome_stop HNO.out (by omega) HO.out)
          go_wp2_with (go_at_call 135; refine (IH.out r' (by omega) (wd ++ [i + 1]) _ _ _ (by rw [List.length_append]; have := HV.out; simp; omega) (by rw [List.length_append]; have := HV.out; simp; omega) (by first | exact HLZ.out | (rw [← HLZ.out]; first | rfl | omega)) HMC.out).mono ?_; rintro e w6 ⟨he6, hm6⟩; rw [HO.out] at he6 hm6; replace he6 : e = .returned (.bool true) := he6; subst he6; have HM6 : Hid (MsI w0 sb m w6 (mskW m y)) := Lib.hid hm6; clear hm6)
          go_ret
          exact ⟨by rw [HR.out]; rfl, by rw [HR.out]; exact HM6.out⟩
        | none =>
          have HNO2 : Hid ((List.range (i + 1 + 1)).findSome? (fun k => findN m (FitW m E F) r' (wd ++ [k])) = none) := Lib.hid (fsome_skip HNO.out HO.out)
          go_upto_region 17 with (go_at_call 135; refine (IH.out r' (by omega) (wd ++ [i + 1]) _ _ _ (by rw [List.length_append]; have := HV.out; simp; omega) (by rw [List.length_append]; have := HV.out; simp; omega) (by first | exact HLZ.out | (rw [← HLZ.out]; first | rfl | omega)) HMC.out).mono ?_; rintro e w6 ⟨he6, hm6⟩; rw [HO.out] at he6 hm6; replace he6 : e = .returned (.bool false) := he6; subst he6; have HM6 : Hid (MsI w0 sb m w6 (mskW m (wd ++ [i + 1]))) := Lib.hid hm6; clear hm6)
          have c4 := (HH.out.blk.to (HM6.out.block HH.out.blk.lt HH.out.ne)).c4
          have hfi := HM6.out.frz i
          have hci := HM6.out.cell hlt
          have HBK : Hid (MsI w0 sb m (w6.setCell ⟨sb, i, none⟩ (.int .u32 (b : Int))) (mskW m wd)) := Lib.hid (by
            have h1 := HM6.out.put i b
            rw [HPUT.out, HSB.out] at h1
            exact h1)
          go_wp2_with fail
          go_roundw
          case rel => exact ⟨i + 1, by omega, by go_num, HNO2, HBK.out⟩
          case measure => simp [intOf]; omega
      · have hz : ((b : Int) == 0) = false := beq_eq_false_iff_ne.2 (by omega)
        have HLZ : Hid ((em : Int) = (lackW m (wd ++ [i + 1]) : Int)) := Lib.hid (by have := HL.out.2 hb0; omega)
        clear hb0
        have HMX : Hid (∀ wx : World, wx = wr.setCell ⟨sb, i, none⟩ (.int .u32 (x : Int)) → MsI w0 sb m wx (mskW m (wd ++ [i + 1]))) := Lib.hid (fun wx e => by rw [e, HPUT.out]; exact HMI.out.put i x)
        go_upto_region 14 with fail
        go_cut [63] (fun s63 wx => MsI w0 sb m wx (mskW m (wd ++ [i + 1])))
        case first =>
          go_region_law (first | (go_simp; go_at_call 74; refine (ONE.out _).mono ?_; rintro e w5 ⟨he5, hw5⟩; subst he5; subst hw5))
          all_goals go_wp2
          all_goals go_meet
          all_goals exact (HMX.out _ rfl).next (below_dN (Below.refl _ _) _)
        case rest =>
        have HMC := Lib.hid hcut
        clear hcut c4 hci hfi hor
        obtain ⟨o, ho⟩ : ∃ o, findN m (FitW m E F) r' (wd ++ [i + 1]) = o := ⟨_, rfl⟩
        have HO := Lib.hid ho
        clear ho
        cases o with
        | some y =>
          have HR : Hid (findN m (FitW m E F) (r' + 1) wd = some y) := Lib.hid (by rw [findN_node HLK.out]; exact fsome_stop HNO.out (by omega) HO.out)
          go_wp2_with (go_at_call 135; refine (IH.out r' (by omega) (wd ++ [i + 1]) _ _ _ (by rw [List.length_append]; have := HV.out; simp; omega) (by rw [List.length_append]; have := HV.out; simp; omega) (by first | exact HLZ.out | (rw [← HLZ.out]; first | rfl | omega)) HMC.out).mono ?_; rintro e w6 ⟨he6, hm6⟩; rw [HO.out] at he6 hm6; replace he6 : e = .returned (.bool true) := he6; subst he6; have HM6 : Hid (MsI w0 sb m w6 (mskW m y)) := Lib.hid hm6; clear hm6)
          go_ret
          exact ⟨by rw [HR.out]; rfl, by rw [HR.out]; exact HM6.out⟩
        | none =>
          have HNO2 : Hid ((List.range (i + 1 + 1)).findSome? (fun k => findN m (FitW m E F) r' (wd ++ [k])) = none) := Lib.hid (fsome_skip HNO.out HO.out)
          go_upto_region 17 with (go_at_call 135; refine (IH.out r' (by omega) (wd ++ [i + 1]) _ _ _ (by rw [List.length_append]; have := HV.out; simp; omega) (by rw [List.length_append]; have := HV.out; simp; omega) (by first | exact HLZ.out | (rw [← HLZ.out]; first | rfl | omega)) HMC.out).mono ?_; rintro e w6 ⟨he6, hm6⟩; rw [HO.out] at he6 hm6; replace he6 : e = .returned (.bool false) := he6; subst he6; have HM6 : Hid (MsI w0 sb m w6 (mskW m (wd ++ [i + 1]))) := Lib.hid hm6; clear hm6)
          have c4 := (HH.out.blk.to (HM6.out.block HH.out.blk.lt HH.out.ne)).c4
          have hfi := HM6.out.frz i
          have hci := HM6.out.cell hlt
          have HBK : Hid (MsI w0 sb m (w6.setCell ⟨sb, i, none⟩ (.int .u32 (b : Int))) (mskW m wd)) := Lib.hid (by
            have h1 := HM6.out.put i b
            rw [HPUT.out, HSB.out] at h1
            exact h1)
          go_wp2_with fail
          go_roundw
          case rel => exact ⟨i + 1, by omega, by go_num, HNO2, HBK.out⟩
          case measure => simp [intOf]; omega
    · obtain rfl : i = m := by omega
      have HR : Hid (findN i (FitW i E F) (r' + 1) wd = none) := Lib.hid (by rw [findN_node HLK.out]; exact HNO.out)
      have HMI := Lib.hid hmi
      clear hmi
      go_wp2_with fail
      go_ret
      exact ⟨by rw [HR.out]; rfl, by rw [HR.out]; exact HMI.out⟩

end Go.Proofs.YtfokiijcpkhllaaDoor

/- A region that draws its order, some of whose stores hit the cells that it loads: facts on the world, each of which holds until a named operation of the region has come up. -/
namespace Go.Proofs.YtfokiijcpkhllaaDoor
open Go.RowKit

section
variable {P : Program} {ops : Array Oper} {Q : Exit → Act → World → Prop} {md : Region.Mode}

/-- Facts, each till the operation beside it has come up. -/
def Stg : List (Nat × (World → Prop)) → Array Bool → World → Prop
  | [], _, _ => True
  | f :: fs, l, w => (l.getD f.1 true = false → f.2 w) ∧ Stg fs l w
theorem Stg.nil {l : Array Bool} {w : World} : Stg [] l w := trivial
theorem Stg.keep {f : Nat × (World → Prop)} {fs : List (Nat × (World → Prop))} {l : Array Bool} {w : World} (h : f.2 w) (r : Stg fs l w) : Stg (f :: fs) l w := ⟨fun _ => h, r⟩
theorem Stg.skip {f : Nat × (World → Prop)} {fs : List (Nat × (World → Prop))} {l : Array Bool} {w : World} (h : l.getD f.1 true = true) (r : Stg fs l w) : Stg (f :: fs) l w := ⟨fun k => absurd (h.symm.trans k) (by decide), r⟩
theorem Stg.get : ∀ {fs : List (Nat × (World → Prop))} {l : Array Bool} {w : World} {m s : Nat} {F : World → Prop}, fs[m]? = some (s, F) → Stg fs l w → l.getD s true = false → F w
  | [], _, _, m, _, _, e, _, _ => by simp at e
  | f :: fs, _, _, 0, _, _, e, h, k => by
    simp only [List.getElem?_cons_zero, Option.some.injEq] at e
    subst e
    exact h.1 k
  | f :: fs, _, _, m + 1, _, _, e, h, k => Stg.get (fs := fs) (m := m) (by simpa using e) h.2 k
theorem Stg.set : ∀ {fs : List (Nat × (World → Prop))} {i : Nat} {l : Array Bool} {w : World}, ((fs.map (·.1)).all fun s => s != i) = true → (Stg fs (l.setIfInBounds i true) w ↔ Stg fs l w)
  | [], _, _, _, _ => Iff.rfl
  | f :: fs, i, l, w, h => by
    simp only [List.map_cons, List.all_cons, Bool.and_eq_true, bne_iff_ne] at h
    unfold Stg
    rw [getD_set_ne true (Ne.symm h.1), Stg.set h.2]

/-- Whatever order is picked from here on; behind each operation the facts hold that are still asked. -/
def wpStg (P : Program) (md : Region.Mode) (ops : Array Oper) (Q : Exit → Act → World → Prop) (fs : List (Nat × (World → Prop))) : Nat → Array Bool → Act → World → Prop
  | 0, l, a, w => Region.ready md ops l = [] ∧ Q .normal a w
  | fuel + 1, l, a, w =>
    (Region.ready md ops l = [] → Q .normal a w) ∧
      ∀ i ∈ Region.ready md ops l, wpOp P ops Q i (fun a' w' => Stg fs (l.setIfInBounds i true) w' ∧ wpStg P md ops Q fs fuel (l.setIfInBounds i true) a' w') a w
variable {fs : List (Nat × (World → Prop))}

theorem wpStg_any : ∀ (fuel : Nat) (l : Array Bool) (a : Act) (w : World), wpStg P md ops Q fs fuel l a w → wpAny P md ops Q fuel l a w
  | 0, _, _, _, h => h
  | fuel + 1, _, _, _, h => ⟨h.1, fun i hi => wpOp_mono (fun a' w' k => wpStg_any fuel _ a' w' k.2) (h.2 i hi)⟩

theorem not_ready_after {i s : Nat} {l : Array Bool} (hb : ((ops[s]?).map fun o => o.after.any fun e => Region.binds md e && e.on == i).getD false = true) (hi : l.getD i true = false) : s ∉ Region.ready md ops l := by
  intro h
  obtain ⟨_, o, ho, hall⟩ := mem_ready.1 h
  rw [ho] at hb
  simp only [Option.map_some, Option.getD_some, Array.any_eq_true'] at hb
  obtain ⟨e, he, hb⟩ := hb
  simp only [Bool.and_eq_true, beq_iff_eq] at hb
  have h2 := hall e he hb.1
  rw [hb.2] at h2
  rcases Nat.lt_or_ge i l.size with k | k
  · simp [k] at h2 hi; rw [hi] at h2; cases h2
  · simp [Array.getElem?_eq_none k] at h2

/-- An operation that yields its value wherever what is still asked holds may be taken first. -/
theorem wpStg_first {i : Nat} {oi : Oper} {v : Value} {F : World → Prop} (G : Array Bool → Prop) (hi : ops[i]? = some oi) (hsel : ∀ (j : Nat) (o : Oper) cs b, ops[j]? = some o → o.op ≠ .select cs b)
    (hQ : ∀ c a w, Q (.panic c) (a.put oi.dst v) w → Q (.panic c) a w) (hne : ((fs.map (·.1)).all fun s => s != i) = true)
    (hGs : ∀ l j, G l → l.getD i true = false → j ∈ Region.ready md ops l → j ≠ i → G (l.setIfInBounds j true)) (hGF : ∀ l w, G l → Stg fs l w → F w) :
    ∀ (fuel : Nat) (l : Array Bool) (a : Act) (w : World),
      (∀ j oj, ops[j]? = some oj → j ≠ i → l.getD j true = false → (∀ e ∈ oj.after, Region.binds md e = true → e.on ≠ i) → oi.apart ops oj = true) →
      i ∈ Region.ready md ops l → G l → YieldsIf P ops F oi v a → Stg fs l w →
      wpStg P md ops Q fs fuel (l.setIfInBounds i true) (a.put oi.dst v) w → wpStg P md ops Q fs (fuel + 1) l a w := by
  intro fuel
  induction fuel with
  | zero =>
    intro l a w _ hr hG hy hS H
    refine ⟨fun h => absurd (h ▸ hr) (by simp), fun j hj => ?_⟩
    by_cases e : j = i
    · subst e
      exact hy.wpOp hi (hGF l w hG hS) ⟨(Stg.set hne).2 hS, H⟩
    · have := ready_mono hj e
      rw [H.1] at this
      simp at this
  | succ fuel ih =>
    intro l a w hap hr hG hy hS H
    refine ⟨fun h => absurd (h ▸ hr) (by simp), fun j hj => ?_⟩
    by_cases e : j = i
    · subst e
      exact hy.wpOp hi (hGF l w hG hS) ⟨(Stg.set hne).2 hS, H⟩
    have hil := (mem_ready.1 hr).1
    obtain ⟨hjl, oj, hoj, hall⟩ := mem_ready.1 hj
    have hno : ∀ x ∈ oj.after, Region.binds md x = true → x.on ≠ i := fun x hx hb k => by
      refine not_ready_after (md := md) (ops := ops) (i := i) (s := j) (l := l) ?_ hil hj
      rw [hoj]
      simp only [Option.map_some, Option.getD_some, Array.any_eq_true']
      exact ⟨x, hx, by simp [hb, k]⟩
    have h2 := wpOp_putIf hoj (hap j oj hoj e hjl hno) (fun cs b => hsel i oi cs b hi) (fun cs b => hsel j oj cs b hoj) hQ hy (H.2 j (ready_mono hj e))
    refine wpOp_mono (fun a' w' h3 => ?_) h2
    obtain ⟨h4, h5, h6⟩ := h3
    rw [Array.setIfInBounds_comm _ _ (Ne.symm e)] at h5 h6
    have h7 := (Stg.set hne).1 h5
    refine ⟨h7, ih _ a' w' (fun k ok hk hki hun hnk => hap k ok hk hki ?_ hnk) (ready_mono hr (Ne.symm e)) (hGs l j hG hil hj e) h4 h7 h6⟩
    by_cases k2 : j = k
    · subst k2; exact hjl
    · rwa [getD_set_ne true k2] at hun

/-- A load is taken first: the store that ends its fact waits for it. -/
theorem wpStg_take {m i s : Nat} {oi : Oper} {v : Value} {F : World → Prop} {fuel : Nat} {l : Array Bool} {a : Act} {w : World} (hm : fs[m]? = some (s, F)) (hi : ops[i]? = some oi)
    (hs : Region.noSelect ops = true) (hf : Region.free md ops l i = true) (hr : (Region.ready md ops l).contains i = true)
    (hb : ((ops[s]?).map fun o => o.after.any fun e => Region.binds md e && e.on == i).getD false = true) (hl : l.getD s true = false) (hne : ((fs.map (·.1)).all fun s => s != i) = true)
    (hQ : ∀ c a w, Q (.panic c) (a.put oi.dst v) w → Q (.panic c) a w) (hy : YieldsIf P ops F oi v a) (hS : Stg fs l w)
    (h : wpStg P md ops Q fs fuel (l.setIfInBounds i true) (a.put oi.dst v) w) : wpStg P md ops Q fs (fuel + 1) l a w :=
  wpStg_first (fun l => l.getD s true = false) hi (Region.noSelect_spec hs) hQ hne
    (fun l j h1 h2 h3 _ => by rw [getD_set_ne true (fun e => not_ready_after hb h2 (by rw [← e]; exact h3))]; exact h1) (fun l w h1 h2 => Stg.get hm h2 h1) fuel l a w (Region.free_spec hi hf) (by simpa using hr) hl hy hS h
/-- What yields in whatever world is taken first. -/
theorem wpStg_pure {i : Nat} {oi : Oper} {v : Value} {fuel : Nat} {l : Array Bool} {a : Act} {w : World} (hi : ops[i]? = some oi)
    (hs : Region.noSelect ops = true) (hf : Region.free md ops l i = true) (hr : (Region.ready md ops l).contains i = true) (hne : ((fs.map (·.1)).all fun s => s != i) = true)
    (hQ : ∀ c a w, Q (.panic c) (a.put oi.dst v) w → Q (.panic c) a w) (hy : YieldsIf P ops (fun _ => True) oi v a) (hS : Stg fs l w)
    (h : wpStg P md ops Q fs fuel (l.setIfInBounds i true) (a.put oi.dst v) w) : wpStg P md ops Q fs (fuel + 1) l a w :=
  wpStg_first (fun _ => True) hi (Region.noSelect_spec hs) hQ hne (fun _ _ _ _ _ _ => trivial) (fun _ _ _ _ => trivial) fuel l a w (Region.free_spec hi hf) (by simpa using hr) trivial hy hS h

/-- Just one operation may come up: it is carried out. -/
theorem wpStg_one {i : Nat} {oi : Oper} {fuel : Nat} {l : Array Bool} {a : Act} {w : World} (hr : Region.ready md ops l = [i]) (hi : ops[i]? = some oi)
    (h : ∀ K' : Act → World → Prop, Shut (∀ a w, Stg fs (l.setIfInBounds i true) w → (Stg fs (l.setIfInBounds i true) w → wpStg P md ops Q fs fuel (l.setIfInBounds i true) a w) → K' a w) →
      if Region.wanted oi (yielded ops a.tmps) = true then Oper.wp P oi a w K' Q else K' (a.put oi.dst undef) w) : wpStg P md ops Q fs (fuel + 1) l a w := by
  refine ⟨fun h0 => ?_, fun j hj => ?_⟩
  · rw [hr] at h0; cases h0
  · rw [hr] at hj
    obtain rfl : j = i := by simpa using hj
    exact wpOp_step hi (fun K' hK => h K' (fun a w hS hW => hK a w ⟨hS, hW hS⟩))
theorem wpStg_done {l : Array Bool} {a : Act} {w : World} (hr : Region.ready md ops l = []) (h : Q .normal a w) : ∀ fuel, wpStg P md ops Q fs fuel l a w
  | 0 => ⟨hr, h⟩
  | _ + 1 => ⟨fun _ => h, by rw [hr]; simp⟩
theorem wp_region_stg {id : Nat} {a : Act} {w : World} (fs : List (Nat × (World → Prop))) (hm : P.follows .mixedOrders = true) (hS : Stg fs (Array.replicate ops.size false) w.drew)
    (h : Stg fs (Array.replicate ops.size false) w.drew → wpStg P .any ops Q fs ops.size (Array.replicate ops.size false) a w.drew) : (Code.region id ops true).wp P Q a w :=
  wp_region_any hm (wpStg_any _ _ _ _ (h hS))
end

/-- append as one operation of such a region; where the new row lies. -/
theorem step_app1f {P : Program} {T E : TypeId} {z : Value} {bytes : Nat} (S : SlTy P T E z 1 bytes) {w : World} {ops : Array Oper} {o : Oper} {a : Act} {K : Act → World → Prop} {Q : Exit → Act → World → Prop} {F : Prop}
    (hgd : o.guard = none) {s x : Operand} (ho : o.op = .call { callee := .builtin .append, args := #[s, x], argTypes := #[T, T] })
    {base : Nat} {v : Value} {n : Nat} {xs : List Value} {el : Value} (hs : a.eval s = v) (hown : w.ownsRow base E 1 v n xs)
    (hx : a.eval x = .slice (some ⟨w.heap.size, 0, none⟩) 1 1) (h1 : el.oneCell' = true)
    (hnm : n < 1000000000) (hbase : base ≤ w.heap.size)
    (h : ∀ b c w', w'.ownsRow base E 1 (.slice (some ⟨b, 0, none⟩) (n + 1) c) (n + 1) (xs ++ [el]) → w.grownBy w' v.ownBlock → (v.ownBlock = some b ∨ w.heap.size < b) → K (a.put o.dst (.slice (some ⟨b, 0, none⟩) (n + 1) c)) w') :
    if Region.wanted o (yielded ops a.tmps) = true then Oper.wp P o a (w.alloc (.cells #[el] E)) K Q else F := by
  have hw : Region.wanted o (yielded ops a.tmps) = true := by simp [Region.wanted, hgd]
  rw [if_pos hw]
  have hal := size_alloc w (.cells #[el] E)
  have hu : Sl (w.alloc (.cells #[el] E)) E (.slice (some ⟨w.heap.size, 0, none⟩) 1 1) 1 [el] := by
    refine ⟨_, 1, rfl, (fun e => by cases e), Nat.le_refl _, by omega, Or.inr ⟨w.heap.size, 0, #[el], (0, 0), rfl, heap_alloc_new w _, fun j u hu => ?_⟩⟩
    cases j with
    | zero => simpa using hu
    | succ j => simp at hu
  obtain ⟨v', w', hr, h2, h3, h4⟩ := run_app S (w.alloc (.cells #[el] E)) o.type base v n xs (hown.alloc _) _ 1 [el] hu (by simp) (by simpa using h1) (by omega) (by omega)
  unfold Oper.wp execOp
  simp only [ho, resolve, invoke, builtin, Sem.run_bind, Sem.run_pure, Result.andThen_ok, List.map_toArray, List.map_cons, List.map_nil, hs, hx, hr]
  rcases id h2.2 with ⟨_, h0⟩ | ⟨g, cap, cur, rfl, _⟩
  · omega
  · refine h g cap w' h2 ⟨h3.os, h3.tape, h3.output, by have := h3.size; omega, fun k hk hne => (h3.block k (by omega) hne).trans (Below.heap_alloc w _ k hk)⟩ ?_
    rcases h4 g rfl with h5 | h5
    · exact .inl h5
    · exact .inr (by omega)

end Go.Proofs.YtfokiijcpkhllaaDoor
