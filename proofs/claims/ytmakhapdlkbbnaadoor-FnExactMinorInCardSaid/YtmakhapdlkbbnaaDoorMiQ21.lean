/- Walks: the reference's search of a model: going on from the beginning of a word. -/
import Derived.Test.YtmakhapdlkbbnaaDoorMiQ20
import Derived.Test.YtmakhapdlkbbnaaDoorMiQ11
import Derived.Deep.RegionLaw
namespace Go.Proofs.YtmakhapdlkbbnaaDoor
open Go.RowKit

/-- What the search returns. -/
def FndR (w' : World) (u : Value) (ok : Bool) (o : Option (List Nat)) : Prop :=
  match o with
  | some x => ok = true ∧ Nums w' 2 .i64 u (natInts x)
  | none => ok = false

def FndE (e : Ending) (w' : World) (o : Option (List Nat)) : Prop := ∃ (u : Value) (ok : Bool), e = .returned (.tuple #[u, .bool ok]) ∧ FndR w' u ok o
theorem grown_dNK {w w' : World} {r : Option Nat} {n : Nat} (h : (w.drewN n).grownBy w' r) : w.grownBy w' r := ⟨h.os, h.tape, h.output, h.size, h.block⟩
theorem grown_transK {w w1 w2 : World} {r : Option Nat} (h : w.grownBy w1 r) (h2 : w1.grownBy w2 r) : w.grownBy w2 r :=
  ⟨h2.os.trans h.os, h2.tape.trans h.tape, h2.output.trans h.output, Nat.le_trans h.size h2.size, fun k hk hne => (h2.block k (Nat.lt_of_lt_of_le hk h.size) hne).trans (h.block k hk hne)⟩
/-- Behind a second step too all but one block is as it was. -/
theorem grown_transB {w0 w w' : World} {rb r : Option Nat} (h : w0.grownBy w rb) (h2 : w.grownBy w' r) (hr : ∀ k, r = some k → rb = some k ∨ w0.heap.size ≤ k) : w0.grownBy w' rb :=
  ⟨h2.os.trans h.os, h2.tape.trans h.tape, h2.output.trans h.output, Nat.le_trans h.size h2.size, fun k hk hne => (h2.block k (Nat.lt_of_lt_of_le hk h.size) fun e => by
    rcases hr k e.symm with h5 | h5
    · exact hne h5.symm
    · omega).trans (h.block k hk hne)⟩
theorem own_newK {w0 : World} {n b m c : Nat} {v : Value} {rb : Option Nat} (hs : w0.heap.size ≤ n) (h : ∀ k, v.ownBlock = some k → rb = some k ∨ w0.heap.size ≤ k) (hb : v.ownBlock = some b ∨ n ≤ b) : ∀ q, (Value.slice (some ⟨b, 0, none⟩) m c).ownBlock = some q → rb = some q ∨ w0.heap.size ≤ q := fun q hq => by
  simp only [Value.ownBlock, Option.some.injEq] at hq
  subst hq
  rcases hb with hb | hb
  · exact h _ hb
  · exact .inr (by omega)
theorem one_ints {K : IntKind} (l : List Int) : ∀ x ∈ l.map (Value.int K), x.oneCell' = true := fun x hx => by
  obtain ⟨y, _, rfl⟩ := List.mem_map.1 hx
  rfl

set_option maxRecDepth 100000 in
set_option maxHeartbeats 4000000 in
theorem l21Find_any (v pv : Value) (g p : List (List Int)) (hok : GOk g) (hp : GOk p) (w0 : World) (rb : Option Nat) (hro : ∀ w', w0.grownBy w' rb → Nums w' 2 .i64 v (natInts (netL g)) ∧ Gr w' pv p) :
    ∀ (r : Nat) (wd : List Nat) (xv : Value) (w : World), wd.length + r = g.length → (∀ x ∈ wd, x ≤ p.length) → w0.grownBy w rb → (∀ k, xv.ownBlock = some k → rb = some k ∨ w0.heap.size ≤ k) → w.ownsRow 0 2 1 xv wd.length ((natInts wd).map (Value.int .i64)) →
    Calls Tryd.prog 121 #[v, pv, xv] w fun e w' => FndE e w' (findN p.length (FitW p.length (ofG g) (ofG p)) r wd) ∧ w'.ownsRow 0 2 1 xv wd.length ((natInts wd).map (Value.int .i64)) ∧ w.grownBy w' xv.ownBlock := by
  have h16 := hok.le
  have hm16 := hp.le
  have HOK := Lib.hid hok
  have HP := Lib.hid hp
  obtain ⟨hn, hg⟩ := hro w0 (World.grownBy.refl _ _)
  have HNL : Hid ((natInts (netL g)).length = g.length) := Lib.hid (by rw [natInts_length]; simp [netL])
  obtain ⟨np, nc, rfl, _⟩ := id hn.shape
  obtain ⟨pu, rfl, hr⟩ := hg
  obtain ⟨pp, pc, rfl, _⟩ := hr.shape
  have HRO := Lib.hid hro
  rw [HNL.out] at HRO ⊢
  clear hn hr hok hp hro
  intro r
  induction r with
  | zero =>
    intro wd xv w hl hm hb hbk hown
    obtain ⟨xp, xc, rfl⟩ := owns_shapeK hown
    obtain ⟨W1, hW1⟩ : ∃ W1, W1 = w.alloc (.cells #[.slice pp p.length pc] 29) := ⟨_, rfl⟩
    have HBA : Hid (Below w.heap.size w W1) := Lib.hid (by rw [hW1]; exact below_alloc _ _)
    have BX : Hid (Box W1 w.heap.size 29 (.slice pp p.length pc)) := Lib.hid (by rw [hW1]; exact Box.new _ _ _)
    have HB1 : Hid (w0.grownBy W1 rb) := Lib.hid (grown_transB hb (grown_of_below HBA.out none) (fun k hk => by cases hk))
    have HN := Lib.hid (HRO.out W1 HB1.out).1
    have HG := Lib.hid (HRO.out W1 HB1.out).2
    have HOW := Lib.hid hown
    have HXS : Hid (Sl W1 2 (.slice xp wd.length xc) wd.length ((natInts wd).map (Value.int .i64))) := Lib.hid (Sl.of_owns (ownsRow_below hown HBA.out) (by omega))
    have HX : Hid (Nums W1 2 .i64 (.slice xp wd.length xc) (natInts wd)) := Lib.hid (Nums.of_owns (ownsRow_below hown HBA.out) (by rw [natInts_length]) (by omega))
    have HM := Lib.hid hm
    have hw16 : wd.length ≤ 16 := by omega
    have HWL : Hid (wd.length = g.length) := Lib.hid (by omega)
    have hcx := BX.out.cell
    rw [← HWL.out] at HN ⊢
    have HL1 := Lib.hid (l21Lacks_any (.slice xp wd.length xc) wd p.length p.length rfl (by omega) W1 HX.out)
    have hlkm := lackW_le p.length wd
    clear hown hb hm hl hbk
    by_cases hlk : 0 < lackW p.length wd
    · have HF := Lib.hid (findN_lack (Fit := FitW p.length (ofG g) (ofG p)) hlk)
      generalize lackW p.length wd = lk at hlk HL1 hlkm
      have hlki : (0 : Int) < (lk : Int) := by omega
      go_enter Tryd.func121, Tryd.ntmps121
      go_upto_region 1 with fail
      rw [← hW1]
      clear hW1
      go_wp2_with (go_at_call 189; refine HL1.out.mono ?_; rintro e w5 ⟨rfl, hw5⟩; subst hw5)
      go_ret2
      refine ⟨⟨_, false, rfl, by rw [HF.out]; rfl⟩, ?_, ?_⟩
      · exact (ownsRow_below HOW.out HBA.out).alloc _
      · exact grown_of_below (HBA.out.alloc HBA.out.size _) _
    · have HF := Lib.hid (findN_leaf (Fit := FitW p.length (ofG g) (ofG p)) hlk)
      generalize lackW p.length wd = lk at hlk HL1 hlkm
      have hlki : ¬ (0 : Int) < (lk : Int) := by omega
      go_enter Tryd.func121, Tryd.ntmps121
      go_upto_region 1 with fail
      rw [← hW1]
      clear hW1
      go_upto_region 5 with (go_at_call 189; refine HL1.out.mono ?_; rintro e w5 ⟨rfl, hw5⟩; subst hw5)
      obtain ⟨fb, hfb⟩ : ∃ fb, fb = dec (FitW p.length (ofG g) (ofG p) wd) := ⟨_, rfl⟩
      have HFB := Lib.hid hfb
      have ONE := Lib.hid (one_ints (K := .i64) (natInts wd))
      have LEN : Hid (((natInts wd).map (Value.int .i64)).length = wd.length) := Lib.hid (by simp [natInts])
      clear hfb
      go_cut [6, 7] (fun s6 s7 wx => Nums wx 2 .i64 s6 (natInts wd) ∧ s7 = .bool fb ∧ Below W1.heap.size W1 wx)
      case first =>
        go_region_held3 (fun w' => w'.cell? ⟨w.heap.size, 0, none⟩ = some (.slice pp p.length pc))
          (first | exact hcx | exact BWB.at' hcx | exact BWA.at' hcx | go_keep)
          (first
            | (go_at_call 190; refine (l1Copy_any _ wd.length _ ONE.out LEN.out _ (by first | exact HXS.out.below BWB | exact HXS.out.below (below_dN (Below.refl _ _) 1))).mono ?_; rintro e w3 ⟨u3, rfl, ho3, hb3⟩; have BWA : Below W1.heap.size W1 w3 := (by first | exact BWB.trans (hb3.mono BWB.size) | exact (below_dN (Below.refl _ _) 1).trans hb3); have HU3 : Hid (Nums w3 2 .i64 u3 (natInts wd)) := Lib.hid (Nums.of_owns ho3 (by rw [natInts_length]) (by omega)); clear ho3 hb3)
            | (go_at_call 191; refine (l21Fits_any _ _ _ g p HOK.out HP.out wd HWL.out HM.out _ (HN.out.below (by first | exact BWA | exact below_dN (Below.refl _ _) 1)) (HG.out.below (by first | exact BWA | exact below_dN (Below.refl _ _) 1)) (HX.out.below (by first | exact BWA | exact below_dN (Below.refl _ _) 1))).mono ?_; rintro e w4 ⟨he4, hb4⟩; rw [← HFB.out] at he4; subst he4; have BWB : Below W1.heap.size W1 w4 := (by first | exact BWA.trans (hb4.mono BWA.size) | exact (below_dN (Below.refl _ _) 1).trans hb4)))
        all_goals go_wp2
        all_goals go_meet
        all_goals first
          | exact ⟨HU3.out, rfl, BWA⟩
          | exact ⟨HU3.out.below hb4, rfl, BWB⟩
      case rest =>
      obtain ⟨hu, rfl, hbx⟩ := hcut
      have HU := Lib.hid hu
      have HBX := Lib.hid hbx
      clear hu hbx
      go_wp2_with fail
      go_ret2
      refine ⟨⟨_, fb, rfl, ?_⟩, ?_, ?_⟩
      · rw [HF.out, ← HFB.out]
        cases fb
        · exact rfl
        · exact ⟨rfl, HU.out⟩
      · exact ownsRow_below HOW.out (HBA.out.trans (HBX.out.mono HBA.out.size))
      · exact grown_of_below (HBA.out.trans (HBX.out.mono HBA.out.size)) _
  | succ r ih =>
    have HIH := Lib.hid ih
    clear ih
    intro wd xv w hl hm hb hbk hown
    obtain ⟨xp, xc, rfl⟩ := owns_shapeK hown
    obtain ⟨W1, hW1⟩ : ∃ W1, W1 = w.alloc (.cells #[.slice pp p.length pc] 29) := ⟨_, rfl⟩
    have HBA : Hid (Below w.heap.size w W1) := Lib.hid (by rw [hW1]; exact below_alloc _ _)
    have BX : Hid (Box W1 w.heap.size 29 (.slice pp p.length pc)) := Lib.hid (by rw [hW1]; exact Box.new _ _ _)
    have HB1 : Hid (w0.grownBy W1 rb) := Lib.hid (grown_transB hb (grown_of_below HBA.out none) (fun k hk => by cases hk))
    have HBK := Lib.hid hbk
    have HOW := Lib.hid hown
    have HOW1 := Lib.hid (ownsRow_below hown HBA.out)
    have HX : Hid (Nums W1 2 .i64 (.slice xp wd.length xc) (natInts wd)) := Lib.hid (Nums.of_owns (ownsRow_below hown HBA.out) (by rw [natInts_length]) (by omega))
    have HM := Lib.hid hm
    have HWL := Lib.hid hl
    have hcx := BX.out.cell
    have HNE : Hid (some w.heap.size ≠ (Value.slice xp wd.length xc).ownBlock) := Lib.hid (fun e => by have := (hown.lt _ e.symm).2; omega)
    have HL1 := Lib.hid (l21Lacks_any (.slice xp wd.length xc) wd p.length p.length rfl (by omega) W1 HX.out)
    have hlkm := lackW_le p.length wd
    have hws : IntKind.i64.wrap ((g.length : Int) - (wd.length : Int)) = (r : Int) + 1 := by rw [IntKind.wrap_i64]; omega
    have hwlt : wd.length < g.length := by omega
    clear hown hb hm hl hbk
    by_cases hlk : r + 1 < lackW p.length wd
    · have HF := Lib.hid (findN_lack (Fit := FitW p.length (ofG g) (ofG p)) hlk)
      generalize lackW p.length wd = lk at hlk HL1 hlkm
      have hlki : (r : Int) + 1 < (lk : Int) := by omega
      go_enter Tryd.func121, Tryd.ntmps121
      go_upto_region 1 with fail
      rw [← hW1]
      clear hW1
      go_wp2_with (go_at_call 189; refine HL1.out.mono ?_; rintro e w5 ⟨rfl, hw5⟩; subst hw5)
      go_ret2
      refine ⟨⟨_, false, rfl, by rw [HF.out]; rfl⟩, ?_, ?_⟩
      · exact (ownsRow_below HOW.out HBA.out).alloc _
      · exact grown_of_below (HBA.out.alloc HBA.out.size _) _
    · have HF := Lib.hid (findN_node (Fit := FitW p.length (ofG g) (ofG p)) hlk)
      generalize lackW p.length wd = lk at hlk HL1 hlkm
      have hlki : ¬ (r : Int) + 1 < (lk : Int) := by omega
      have hwne : ((wd.length : Int) == (g.length : Int)) = false := beq_eq_false_iff_ne.2 (by omega)
      have hwne2 : ¬ wd.length = g.length := by omega
      go_enter Tryd.func121, Tryd.ntmps121
      go_upto_region 1 with fail
      rw [← hW1]
      clear hW1
      go_wp2_with (go_at_call 189; refine HL1.out.mono ?_; rintro e w5 ⟨rfl, hw5⟩; subst hw5)
      go_loopw [9] (fun iv wr => ∃ k : Nat, k ≤ p.length + 1 ∧ iv = .int .i64 k ∧ Hid ((List.range k).findSome? (fun c => findN p.length (FitW p.length (ofG g) (ofG p)) r (wd ++ [c])) = none) ∧ Hid (wr.ownsRow 0 2 1 (.slice xp wd.length xc) wd.length ((natInts wd).map (Value.int .i64))) ∧ Hid (W1.grownBy wr (Value.slice xp wd.length xc).ownBlock)) (fun iv _ => p.length + 1 - (intOf iv).toNat)
      case atStart => exact ⟨0, Nat.zero_le _, rfl, Lib.hid (by simp), HOW1, Lib.hid (World.grownBy.refl _ _)⟩
      case round =>
        obtain ⟨k, hk, rfl, HSK, HOR, HGR⟩ := hrel
        have hcx := (BX.out.grown HGR.out HNE.out).cell
        have hsr : 0 ≤ wr.heap.size := Nat.zero_le _
        have HBR : Hid (w0.grownBy wr rb) := Lib.hid (grown_transB HB1.out HGR.out HBK.out)
        have BXR := Lib.hid (BX.out.grown HGR.out HNE.out)
        by_cases hlt : k ≤ p.length
        · have hlti : (k : Int) ≤ (p.length : Int) := by omega
          have HLN : Hid ((wd ++ [k]).length + r = g.length) := Lib.hid (by have := HWL.out; rw [List.length_append, List.length_singleton]; omega)
          have HMN : Hid (∀ x ∈ wd ++ [k], x ≤ p.length) := Lib.hid (fun x hx => by
            rcases List.mem_append.1 hx with h | h
            · exact HM.out x h
            · rw [List.mem_singleton.1 h]; exact hlt)
          have HRW : Hid ((natInts (wd ++ [k])).map (Value.int .i64) = (natInts wd).map (Value.int .i64) ++ [Value.int .i64 k] ∧ (wd ++ [k]).length = wd.length + 1) := Lib.hid ⟨by simp [natInts], by simp⟩
          have hw15 : wd.length < 1000000000 := by omega
          clear hlk hlki hws hwne hwne2
          go_upto_region 9 with fail
          go_cut [10, 11] (fun s10 s11 wx => FndE (.returned (.tuple #[s10, s11])) wx (findN p.length (FitW p.length (ofG g) (ofG p)) r (wd ++ [k])) ∧ Hid (wx.ownsRow 0 2 1 (.slice xp wd.length xc) wd.length ((natInts wd).map (Value.int .i64))) ∧ Hid (W1.grownBy wx (Value.slice xp wd.length xc).ownBlock))
          case first =>
            go_region_held3 (fun w' => w'.cell? ⟨w.heap.size, 0, none⟩ = some (.slice pp p.length pc))
              (first | exact hcx | exact hx8 | exact hx7 | go_keep)
              (first
                | (refine step_app1K (w := wr.drewN 1) (s := .tmp 44) (x := .tmp 46) ty_i64 rfl rfl rfl HOR.out rfl rfl hw15 hsr ?_; intro b7 c8 w7 hown7 hg7 hk7 hb7; have HOK7 := Lib.hid hk7; have HG7 := Lib.hid (grown_dNK hg7); have hx7 := (BXR.out.grown HG7.out HNE.out).cell; have HB7 : Hid (w0.grownBy w7 rb) := Lib.hid (grown_transB HBR.out HG7.out HBK.out); have HBK7 : Hid (∀ q, (Value.slice (some ⟨b7, 0, none⟩) (wd.length + 1) c8).ownBlock = some q → rb = some q ∨ w0.heap.size ≤ q) := Lib.hid (own_newK HBR.out.size HBK.out hb7); have HO7 := Lib.hid hown7; have BX7 := Lib.hid (BXR.out.grown HG7.out HNE.out); clear hown7 hg7 hk7 hb7)
                | (go_at_call 121; refine (HIH.out (wd ++ [k]) _ _ HLN.out HMN.out HB7.out HBK7.out (by rw [HRW.out.1, HRW.out.2]; exact HO7.out)).mono ?_; rintro e w8 ⟨⟨u8, ok8, rfl, hf8⟩, ho8, hg8⟩; have HF8 := Lib.hid hf8; have HK8 := Lib.hid (HOK7.out w8 hg8 (by rw [HRW.out.1, HRW.out.2] at ho8; exact ho8)); have hx8 := (BXR.out.grown (grown_dNK HK8.out.2) HNE.out).cell; clear hf8 ho8 hg8))
            all_goals go_wp2
            all_goals go_meet
            all_goals exact ⟨⟨_, _, rfl, HF8.out⟩, Lib.hid HK8.out.1, Lib.hid (grown_transK HGR.out (grown_dNK HK8.out.2))⟩
          case rest =>
          obtain ⟨⟨u9, ok, he9, hfr⟩, HOC, HGC⟩ := hcut
          simp only [Ending.returned.injEq, Value.tuple.injEq, Array.mk.injEq, List.cons.injEq, and_true] at he9
          obtain ⟨rfl, rfl⟩ := he9
          have HFR := Lib.hid hfr
          clear hfr
          cases hfo : findN p.length (FitW p.length (ofG g) (ofG p)) r (wd ++ [k]) with
          | none =>
            rw [hfo] at HFR
            obtain rfl : ok = false := HFR.out
            have HSN : Hid ((List.range (k + 1)).findSome? (fun c => findN p.length (FitW p.length (ofG g) (ofG p)) r (wd ++ [c])) = none) := Lib.hid (fsome_skip HSK.out hfo)
            clear hfo
            go_wp2_with fail
            go_roundw
            case rel => exact ⟨k + 1, by omega, by go_num, HSN, HOC, HGC⟩
            case measure => simp [intOf]; omega
          | some x =>
            rw [hfo] at HFR
            obtain ⟨hok1, hnx⟩ := HFR.out
            subst hok1
            have HFX : Hid (findN p.length (FitW p.length (ofG g) (ofG p)) (r + 1) wd = some x) := Lib.hid (by rw [HF.out]; exact fsome_stop HSK.out (by omega) hfo)
            have HNX := Lib.hid hnx
            clear hfo hnx
            go_wp2_with fail
            go_ret2
            exact ⟨⟨_, true, rfl, by rw [HFX.out]; exact ⟨rfl, HNX.out⟩⟩, HOC.out, grown_transK (grown_of_below HBA.out _) HGC.out⟩
        · obtain rfl : k = p.length + 1 := by omega
          have hlti : ¬ (p.length : Int) + 1 ≤ (p.length : Int) := by omega
          have HFX : Hid (findN p.length (FitW p.length (ofG g) (ofG p)) (r + 1) wd = none) := Lib.hid (by rw [HF.out]; exact HSK.out)
          clear hlk hlki hws hwne hwne2
          go_wp2_with fail
          go_ret2
          refine ⟨⟨_, false, rfl, by rw [HFX.out]; rfl⟩, HOR.out.alloc _, ?_⟩
          exact grown_transK (grown_of_below HBA.out _) (grown_transK HGR.out (grown_of_below (below_alloc _ _) _))

end Go.Proofs.YtmakhapdlkbbnaaDoor

/- Walks: linking two vertices in a graph that is the callee's own. -/
namespace Go.Proofs.YtmakhapdlkbbnaaDoor
open Go.RowKit

theorem get_getD {α : Type} (l : List α) (k : Nat) (d : α) (h : k < l.length) : l[k]? = some (l.getD k d) := by simp [h]

structure LK (w wr : World) (base ob c : Nat) (g : List (List Int)) (vals : List Value) : Prop where
  len : vals.length = g.length
  own : wr.ownsRow base 36 1 (.slice (some ⟨ob, 0, none⟩) g.length c) g.length vals
  rows : ∀ j, j < g.length → Nums wr 2 .i64 (vals.getD j undef) (row g j)
  box : Box wr w.heap.size 29 (.slice (some ⟨ob, 0, none⟩) g.length c)
  res : Box wr (w.heap.size + 1) 29 (.slice none 0 0)
  grown : w.grownBy wr (some ob)
  lt : ob < w.heap.size

theorem LK.step {w wr w2 : World} {base ob c : Nat} {g : List (List Int)} {vals : List Value} (h : LK w wr base ob c g vals) (hb : Below wr.heap.size wr w2) {rv : Value} {s : List Int} (hn : Nums w2 2 .i64 rv s) {u : Nat} (hu : u < g.length) :
    LK w (w2.setCell ⟨ob, u, none⟩ rv) base ob c (g.set u s) (vals.set u rv) := by
  have ho := ownsRow_below h.own hb
  obtain ⟨ho2, hg2⟩ := ho.stored u rv
  have hl := h.lt
  refine ⟨by simp [h.len], by rw [List.length_set]; exact ho2, fun j hj => ?_, ?_, ?_, grown_trans (grown_trans h.grown (grown_of_below hb _)) hg2, hl⟩
  · rw [List.length_set] at hj
    rw [row_set _ _ _ _ hu]
    by_cases e : j = u
    · subst e
      rw [if_pos rfl]
      have : (vals.set j rv).getD j undef = rv := by simp [h.len, hj]
      rw [this]
      exact hn.other ho hg2 (by decide)
    · rw [if_neg e]
      have : (vals.set u rv).getD j undef = vals.getD j undef := by simp [show ¬ u = j from fun q => e q.symm]
      rw [this]
      exact ((h.rows j hj).below hb).other ho hg2 (by decide)
  · rw [List.length_set]
    exact (h.box.keep hb).setOther (by show w.heap.size ≠ ob; omega) _
  · exact (h.res.keep hb).setOther (by show w.heap.size + 1 ≠ ob; omega) _

set_option maxRecDepth 100000 in
set_option maxHeartbeats 4000000 in
theorem l1Link_any (p : Option Addr) (c : Nat) (g : List (List Int)) (y z : Int) (u k base : Nat) (hy : y = u) (hz : z = k) (hu : u < g.length) (hk : k < g.length) (hr : ∀ j, j < g.length → (row g j).length ≤ 1000) (w : World)
    (hs : SG w base (.agg #[.slice p g.length c]) g) :
    Calls Tryd.prog 151 #[.agg #[.slice p g.length c], .int .i64 y, .int .i64 z] w fun e w' => e = .returned (.agg #[.slice p g.length c]) ∧ SG w' base (.agg #[.slice p g.length c]) (linkL g u k) ∧ w.grownBy w' (Value.slice p g.length c).ownBlock := by
  subst hy; subst hz
  obtain ⟨_, vals, h1, hl, ho, hrows⟩ := hs
  cases h1
  obtain ⟨ob, rfl⟩ : ∃ ob, p = some ⟨ob, 0, none⟩ := by
    rcases ho.2 with ⟨_, h0⟩ | ⟨b, cc, _, h1, _⟩
    · omega
    · simp only [Value.slice.injEq] at h1
      exact ⟨b, h1.1⟩
  have hlt := (ho.lt ob rfl).2
  have hbb := below_alloc2 w (.cells #[.slice (some ⟨ob, 0, none⟩) g.length c] 29) (.cells #[.slice none 0 0] 29)
  have START : Hid (LK w ((w.alloc (.cells #[.slice (some ⟨ob, 0, none⟩) g.length c] 29)).alloc (.cells #[.slice none 0 0] 29)) base ob c g vals) := Lib.hid
    ⟨hl, ownsRow_below ho hbb, fun j hj => (hrows j hj).below hbb, (Box.new _ _ _).alloc _, by have := Box.new (w.alloc (.cells #[.slice (some ⟨ob, 0, none⟩) g.length c] 29)) (.slice none 0 0) 29; rw [size_alloc] at this; exact this, grown_of_below hbb _, hlt⟩
  have HR := Lib.hid hr
  clear hl ho hrows hbb hr
  go_enter Tryd.func151, Tryd.ntmps151
  go_upto_region 1 with fail
  generalize hW : (w.alloc (.cells #[.slice (some ⟨ob, 0, none⟩) g.length c] 29)).alloc (.cells #[.slice none 0 0] 29) = W at *
  clear hW
  obtain ⟨bc, bf, _, _⟩ := START.out.box
  obtain ⟨rp, rc, hrs, _⟩ := (START.out.rows u hu).shape
  have hcu := START.out.own.cellAt u (by omega)
  have hv0 := get_getD vals u undef (by rw [START.out.len]; exact hu)
  rw [hv0, hrs] at hcu
  have hnu := Lib.hid (START.out.rows u hu)
  rw [hrs] at hnu
  have hru := HR.out u hu
  clear hv0 hrs
  go_cut [] (fun wx => ∃ rv, LK w wx base ob c (g.set u (intoL (row g u) k)) (vals.set u rv))
  case first =>
    go_region_law (first | (go_simp; go_at_call 204; refine (l1Into_any _ (row g u) k (by omega) _ (hnu.out.below (below_dN (Below.refl _ _) 1))).mono ?_; rintro e w2 ⟨rv, rfl, hn2, hb2⟩; obtain ⟨rvp, rvc, rfl, _⟩ := hn2.shape; have hb2' : Below W.heap.size W w2 := (below_dN (Below.refl _ _) 1).trans hb2; have hf2 := (ownsRow_below START.out.own hb2').frozenAt u; have hc2 := hb2'.at' hcu; have hbc2 := hb2'.at' bc))
    all_goals go_wp2
    all_goals go_meet
    all_goals exact ⟨_, START.out.step hb2' hn2 hu⟩
  case rest =>
    obtain ⟨rv0, hlk⟩ := hcut
    have HL := Lib.hid hlk
    have hk' : k < (g.set u (intoL (row g u) k)).length := by simpa using hk
    obtain ⟨bc, bf, _, _⟩ := hlk.box
    obtain ⟨rp, rc, hrs, _⟩ := (hlk.rows k hk').shape
    have hcu := hlk.own.cellAt k (by omega)
    have hv0 := get_getD (vals.set u rv0) k undef (by rw [hlk.len]; exact hk')
    rw [hv0, hrs] at hcu
    have hnu := Lib.hid (hlk.rows k hk')
    rw [hrs] at hnu
    have hl1 : (g.set u (intoL (row g u) k)).length = g.length := by simp
    have hru : (row (g.set u (intoL (row g u) k)) k).length ≤ 2000 := by
      rw [row_set _ _ _ _ hu]
      split
      · have := intoL_length (row g u) k; have := HR.out u hu; omega
      · have := HR.out k hk; omega
    rw [hl1] at bc
    clear hv0 hrs hlk
    generalize hr1 : row (g.set u (intoL (row g u) k)) k = r1 at hru hcu hnu
    go_upto_region 2 with fail
    go_cut [] (fun wx => ∃ rv, LK w wx base ob c (linkL g u k) ((vals.set u rv0).set k rv))
    case first =>
      go_region_law (first | (go_simp; go_at_call 204; refine (l1Into_any _ r1 u (by omega) _ (hnu.out.below (below_dN (Below.refl _ _) 1))).mono ?_; rintro e w2 ⟨rv, rfl, hn2, hb2⟩; obtain ⟨rvp, rvc, rfl, _⟩ := hn2.shape; have hb2' : Below wc.heap.size wc w2 := (below_dN (Below.refl _ _) 1).trans hb2; have hf2 := (ownsRow_below HL.out.own hb2').frozenAt k; have hc2 := hb2'.at' hcu; have hbc2 := hb2'.at' bc))
      all_goals go_wp2
      all_goals go_meet
      all_goals exact ⟨_, by rw [show linkL g u k = (g.set u (intoL (row g u) k)).set k (intoL r1 u) from by unfold linkL; rw [hr1]]; exact HL.out.step hb2' hn2 hk'⟩
    case rest =>
      obtain ⟨rv1, hlk⟩ := hcut
      have HL2 := Lib.hid hlk
      obtain ⟨bc, bf, _, _⟩ := hlk.box
      obtain ⟨k2c, k2f, _⟩ := hlk.res
      rw [linkL_length] at bc
      clear hlk
      go_wp2
      refine bodyPost_ret (v := .agg #[.slice (some ⟨ob, 0, none⟩) g.length c]) (by simp [results, Tryd.results151, go_sem, k2c]) rfl ⟨rfl, ⟨_, _, rfl, HL2.out.len, ?_, fun j hj => ?_⟩, ?_⟩
      · exact ownsRow_setBox (by have := HL2.out.own; rw [linkL_length] at this ⊢; exact this) HL2.out.res (by decide) _
      · exact (HL2.out.rows j hj).setBox HL2.out.res (by decide) _
      · have hlt' := HL2.out.lt
        refine ⟨HL2.out.grown.os, HL2.out.grown.tape, HL2.out.grown.output, by have := HL2.out.grown.size; simpa [World.setCell] using this, fun b hb hne => ?_⟩
        rw [Below.heap_setCell _ _ _ _ (by show b ≠ w.heap.size + 1; omega)]
        exact HL2.out.grown.block b hb hne

end Go.Proofs.YtmakhapdlkbbnaaDoor
