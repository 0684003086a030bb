/- Walk: the program reads a tree from the front. -/
import Derived.Test.YtfphapcgjlhieaaDoorGtQ22
import Derived.Test.YtfphapcgjlhieaaDoorGtQ34
import Derived.Test.YtfphapcgjlhieaaDoorGtQ26
namespace Go.Proofs.YtfphapcgjlhieaaDoor
open Go.RowKit

theorem ownsRow_cutTe {w : World} {base : Nat} {E : TypeId} {n c k : Nat} {p : Option Addr} {xs : List Value} (h : w.ownsRow base E 1 (.slice p n c) n xs) (hk : k ≤ n) : w.ownsRow base E 1 (.slice p k c) k (xs.take k) := by
  refine ⟨by rw [List.length_take]; have := h.1; omega, ?_⟩
  rcases h.2 with ⟨h1, h0⟩ | ⟨g, cap, cur, h1, h2, h3, h4, h5, h6, h7⟩
  · left
    subst h0
    obtain rfl : k = 0 := by omega
    exact ⟨h1, rfl⟩
  · right
    simp only [Value.slice.injEq] at h1
    obtain ⟨rfl, _, rfl⟩ := h1
    refine ⟨g, _, cur, rfl, h2, h3, by omega, h5, h6, ?_⟩
    rw [Nat.mul_one] at h7 ⊢
    rw [← h7, List.take_take, Nat.min_eq_left hk]

theorem leaf_not_innK {p : Pt} (h : p.k = 1) : ¬ InnP p := fun h2 => by rcases h2.1 with h3 | h3 | h3 <;> omega
theorem drop_revTe {R : List Nat} {m : Nat} (h : m ≤ R.length) : natInts (R.drop m).reverse = (natInts R.reverse).take (R.length - m) := by
  unfold natInts
  rw [← List.map_take, List.take_reverse, show R.length - (R.length - m) = m by omega]
theorem natInts_appTe (a b : List Nat) : natInts (a ++ b) = natInts a ++ natInts b := by simp [natInts]
theorem owns_shapeTe {w : World} {base : Nat} {E : TypeId} {size n : Nat} {v : Value} {xs : List Value} (h : w.ownsRow base E size v n xs) : ∃ p c, v = .slice p n c := by
  rcases h.2 with ⟨h1, h0⟩ | ⟨g, cap, cur, h1, _⟩
  · exact ⟨none, 0, by rw [h1, h0]⟩
  · exact ⟨_, _, h1⟩
/-- What is handed back. -/
def LvE (w : World) (ts : List Pt) (e : Ending) (w' : World) : Prop := ∃ (lv : Value) (ok : Bool), e = .returned (.tuple #[lv, .bool ok]) ∧ ok = dec (PartsI ts) ∧ (ok = true → VS w' lv (mskT ts)) ∧ Below w.heap.size w w'
/-- What the loop carries. -/
structure LvI (w wr : World) (ts : List Pt) (i : Nat) (ov lv : Value) (R : List Nat) : Prop where
  sc : scT ts i 0 [] = some R
  ct : ∀ (j : Nat) (p : Pt), j < i → ts[j]? = some p → RisE (mskT ts) p ∧ DisP (mskT ts) p
  bel : Below w.heap.size w wr
  opn : wr.ownsRow w.heap.size 3 1 ov R.length ((natInts R.reverse).map (Value.int .i64))
  lvs : wr.ownsRow w.heap.size 76 1 lv i (((mskT ts).take i).map u32v)

set_option maxRecDepth 100000 in
set_option maxHeartbeats 4000000 in
theorem subtreeLeaves_any (v : Value) (ts : List Pt) (w : World) (h : Trs w v ts) (hT : Tab w) :
    Calls Tryd.prog 48 #[v] w (LvE w ts) := by
  obtain ⟨vp, vc, rfl, hlen⟩ := h.shape
  have HTR := Lib.hid h
  have HT := Lib.hid hT
  have hb0 : Below w.heap.size w ((w.alloc (.cells #[] 3)).alloc (.cells #[] 76)) := (below_alloc w _).alloc (by rw [size_alloc]; omega) _
  have START : Hid (LvI w ((w.alloc (.cells #[] 3)).alloc (.cells #[] 76)) ts 0 (.slice (some ⟨w.heap.size, 0, none⟩) 0 0) (.slice (some ⟨w.heap.size + 1, 0, none⟩) 0 0) []) := Lib.hid
    ⟨rfl, fun j p hj => by omega, hb0, ownsRow_below (ownsRow_empty w _ _) (below_alloc _ _), by simpa using ownsRow_empty' w (.cells #[] 3) 76 1 w.heap.size (by omega)⟩
  clear h hT hb0
  go_enter Tryd.func48, Tryd.ntmps48
  go_wp2
  go_loopw [4, 5, 16] (fun ov lv i wr => ∃ (k : Nat) (R : List Nat), k ≤ ts.length ∧ i = .int .i64 k ∧ LvI w wr ts k ov lv R) (fun _ _ i _ => ts.length - (intOf i).toNat)
  case atStart => exact ⟨0, [], Nat.zero_le _, rfl, START.out⟩
  case round =>
    clear START
    obtain ⟨k, R, hk, rfl, hI⟩ := hrel
    have HI := Lib.hid hI
    have hbel := hI.bel
    obtain ⟨op, oc, hov⟩ := owns_shapeTe hI.opn
    obtain ⟨lp, lc, hlv⟩ := owns_shapeTe hI.lvs
    subst hov
    subst hlv
    have HOP := Lib.hid hI.opn
    have HLV := Lib.hid hI.lvs
    have HSZ := Lib.hid hI.sc
    have HBW := Lib.hid hbel
    have hrl : R.length ≤ k := by
      have := (sc_count _ _ hI.sc).2.2
      have hl : lvs (ts.take k) ≤ k := Nat.le_trans List.countP_le_length (by rw [List.length_take]; omega)
      omega
    clear hI
    by_cases hlt : k < ts.length
    · obtain ⟨p, hp⟩ : ∃ p, ts[k]? = some p := ⟨_, List.getElem?_eq_getElem hlt⟩
      obtain ⟨b, o, rp, rc, rfl, c0, c1, c2, hkn, hkl⟩ := (HTR.out.below hbel).at hp
      have HKN := Lib.hid hkn
      have HP := Lib.hid hp
      have hol : R.length < 1000000000 := by omega
      have hkl9 : k < 1000000000 := by omega
      clear hp hkn hbel
      obtain ⟨pk, pv, ps⟩ := p
      simp only at c0 c1 c2 hkl
      go_upto_region 5 with fail
      obtain ⟨W, hW⟩ : ∃ W, W = wr.alloc (.cells #[.int .i64 pk, .int .i64 pv, .slice rp ps.length rc] 54) := ⟨_, rfl⟩
      rw [← hW]
      have HBA : Hid (Below wr.heap.size wr W) := Lib.hid (by rw [hW]; exact below_alloc _ _)
      obtain ⟨z0, z1, z2⟩ := cells3Te wr (.int .i64 pk) (.int .i64 pv) (.slice rp ps.length rc) 54
      rw [← hW] at z0 z1 z2
      have HBWA := Lib.hid (HBW.out.trans (HBA.out.mono HBW.out.size))
      have NO : Hid (∀ wz lz, ¬ ((LeafP ⟨pk, pv, ps⟩ ∨ (InnP ⟨pk, pv, ps⟩ ∧ KidsT ps R.reverse ((mskT ts).take k))) ∧ DisP (mskT ts) ⟨pk, pv, ps⟩) → Below W.heap.size W wz →
          LvE w ts (Ending.returned (.tuple #[lz, .bool false])) wz) := Lib.hid fun wz lz hn hb =>
        ⟨lz, false, rfl, false_dec fun h => hn (tparts_step h HSZ.out HP.out), (fun e => by cases e), HBWA.out.trans (hb.mono HBWA.out.size)⟩
      clear hW c0 c1 c2
      by_cases hk1 : pk = 1
      · subst hk1
        have e1 : ((1 : Int) == (1 : Int)) = true := rfl
        by_cases hv : 0 ≤ pv ∧ pv ≤ 15
        case neg =>
          have hd := dec_false hv
          have HN := Lib.hid hv
          clear hv
          go_wp2_with (go_at_call 64; refine (inRange_any pv 0 15 _).mono ?_; rintro e w2 ⟨he, rfl⟩; rw [hd] at he; subst he)
          go_ret2
          exact NO.out _ _ (fun h => by
            rcases h.1 with h1 | h1
            · exact HN.out ⟨h1.2.1, by have := h1.2.2.1; simp only at this; omega⟩
            · exact absurd h1.1 (leaf_not_innK rfl)) (Below.refl _ _)
        have hd := dec_true hv
        by_cases hs0 : ps.length = 0
        case neg =>
          have hs0' : (0 : Int) < (ps.length : Int) := by omega
          go_wp2_with (go_at_call 64; refine (inRange_any pv 0 15 _).mono ?_; rintro e w2 ⟨he, rfl⟩; rw [hd] at he; subst he)
          go_ret2
          exact NO.out _ _ (fun h => by
            rcases h.1 with h1 | h1
            · have := h1.2.2.2; simp only at this; rw [this] at hs0; exact hs0 rfl
            · exact absurd h1.1 (leaf_not_innK rfl)) (Below.refl _ _)
        obtain rfl := List.eq_nil_of_length_eq_zero hs0
        obtain ⟨q, rfl⟩ : ∃ q : Nat, pv = (q : Int) := ⟨pv.toNat, by omega⟩
        have hq32 : q < 32 := by omega
        have hqi : ((2 ^ q : Nat) : Int) < 4294967296 := by have := pow_lt32 q hq32; omega
        have HLF : Hid (LeafP ⟨1, (q : Int), []⟩) := Lib.hid ⟨rfl, by simp only; omega, by simp only; omega, rfl⟩
        have HSC : Hid (scT ts (k + 1) 0 [] = some (k :: R) ∧ (mskT ts).getD k 0 = 2 ^ q) := Lib.hid (by have h := sc_leaf HSZ.out HP.out HLF.out; simp only [Int.toNat_natCast] at h; exact h)
        have HCT : Hid (∀ (j : Nat) (p : Pt), j < k + 1 → ts[j]? = some p → RisE (mskT ts) p ∧ DisP (mskT ts) p) := Lib.hid fun j p hj hp => by
          by_cases e : j = k
          · subst e
            obtain rfl := Option.some.inj (hp.symm.trans HP.out)
            exact leaf_disj HLF.out
          · exact HI.out.ct j p (by omega) hp
        clear hs0
        go_upto_region 25 with (first
          | (go_at_call 64; refine (inRange_any (q : Int) 0 15 _).mono ?_; rintro e w2 ⟨he, rfl⟩; rw [hd] at he; subst he)
          | (go_at_call 98; refine (one_any _ q rfl hq32 _).mono ?_; rintro e w3 ⟨rfl, rfl⟩))
        clear hd hv hqi e1 hkl
        have ho5 := ownsRow_below HOP.out HBA.out
        have hl5 := ownsRow_below HLV.out HBA.out
        have hsB := HBA.out.size
        have hsW := HBW.out.size
        go_wp2_with (first
          | (at_builtin; refine wpList_app1s ty_int rfl rfl rfl ho5 rfl rfl hol (by omega) ?_; intro b6 c6 w6 hown6 hg6 _; have BG6 : Below w.heap.size w w6 := below_grown (Below.trans HBW.out (HBA.out.mono HBW.out.size)) ho5 hg6 (Nat.le_refl _) (by omega); have hl6 := ownsRow_other hl5 ho5 hg6 (by decide); have hs6 := hg6.size)
          | (at_builtin; refine wpList_app1s ty_vsets rfl rfl rfl hl6 rfl rfl hkl9 (by omega) ?_; intro b7 c7 w7 hown7 hg7 _; have BG7 := below_grown BG6 hl6 hg7 (Nat.le_refl _) (by omega); have ho7 := ownsRow_other hown6 hl6 hg7 (by decide)))
        go_roundw
        case rel =>
          refine ⟨k + 1, k :: R, by omega, by go_num, HSC.out.1, HCT.out, BG7, ?_, ?_⟩
          · have := ho7; rw [List.reverse_cons, natInts_appTe, List.map_append]; exact this
          · rw [List.take_succ_eq_append_getElem (show k < (mskT ts).length by rw [mskT_length]; exact hlt), List.map_append]
            have e : (mskT ts)[k]'(by rw [mskT_length]; exact hlt) = 2 ^ q := by rw [← HSC.out.2]; exact (getD_atT (by rw [mskT_length]; exact hlt)).symm
            rw [e]
            exact hown7
        case measure => simp [intOf]; omega
      by_cases hk2 : pk = 2 ∨ pk = 3 ∨ pk = 4
      case neg =>
        have n1 : (pk == 1) = false := by simp; omega
        have n2 : (pk == 2) = false := by simp; omega
        have n3 : (pk == 3) = false := by simp; omega
        have n4 : (pk == 4) = false := by simp; omega
        have HN := Lib.hid hk2
        have HN1 := Lib.hid hk1
        clear hk1 hk2
        go_wp2
        go_ret2
        exact NO.out _ _ (fun h => by
          rcases h.1 with h1 | h1
          · exact HN1.out h1.1
          · exact HN.out h1.1.1) (Below.refl _ _)
      have HNL : Hid (¬ LeafP ⟨pk, pv, ps⟩) := Lib.hid fun h => hk1 h.1
      have HK2 := Lib.hid hk2
      have n1 : (pk == 1) = false := by simp; omega
      by_cases hv0 : pv = 0
      case neg =>
        have hv0' : (pv != 0) = true := by simpa using hv0
        have HV := Lib.hid hv0
        clear hk1 hv0
        rcases hk2 with rfl | rfl | rfl
        all_goals go_wp2
        all_goals go_ret2
        all_goals exact NO.out _ _ (fun h => by
          rcases h.1 with h1 | h1
          · exact HNL.out h1
          · exact HV.out h1.1.2.1) (Below.refl _ _)
      subst hv0
      have hz0 : ((0 : Int) != 0) = false := rfl
      have hgood : ∀ r, r < k → (mskT ts).getD r 0 < 65536 ∧ (mskT ts).getD r 0 ≠ 0 := msk_ok k (sc_good _ _ HSZ.out).2
      have hML : ((mskT ts).take k).length = k := by rw [List.length_take, mskT_length]; omega
      have HVS : Hid (VS W (.slice lp k lc) ((mskT ts).take k)) := Lib.hid (by
        have := Sl.of_owns (ownsRow_below HLV.out HBA.out) (by omega)
        unfold VS
        rw [hML]
        exact this)
      have HON : Hid (Nums W 3 .i64 (.slice op R.length oc) (natInts R.reverse)) := Lib.hid (Nums.of_owns (ownsRow_below HOP.out HBA.out) (by rw [natInts_length, List.length_reverse]) (by omega))
      have HTW := Lib.hid (HT.out.keep HBWA.out)
      have HG := Lib.hid hgood
      have HMLH := Lib.hid hML
      have HRK : Hid (∀ r ∈ R.reverse, r < ((mskT ts).take k).length) := Lib.hid fun r hr => by
        rw [hML]
        exact (sc_good _ _ HSZ.out).1 r (List.mem_reverse.1 hr)
      have HMK : Hid (∀ r, r < ((mskT ts).take k).length → ((mskT ts).take k).getD r 0 < 65536 ∧ ((mskT ts).take k).getD r 0 ≠ 0) := Lib.hid fun r hr => by
        rw [hML] at hr
        rw [getD_take hr]
        exact hgood r hr
      clear hgood hML hk1
      by_cases hkt : KidsT ps R.reverse ((mskT ts).take k)
      case neg =>
        have hd := dec_false hkt
        have HN := Lib.hid hkt
        clear hkt
        rcases hk2 with rfl | rfl | rfl
        all_goals go_wp2_with (go_at_call 115; refine (goodKids_any _ _ _ ps R.reverse _ _ (HKN.out.below HBA.out) HON.out HVS.out HRK.out HMK.out HTW.out).mono ?_; rintro e w2 ⟨he, hb2⟩; rw [hd] at he; subst he)
        all_goals go_ret2
        all_goals exact NO.out _ _ (fun h => by
          rcases h.1 with h1 | h1
          · exact HNL.out h1
          · exact HN.out h1.2) hb2
      have hd := dec_true hkt
      have HKT := Lib.hid hkt
      have HINN : Hid (InnP ⟨pk, 0, ps⟩) := Lib.hid ⟨hk2, rfl, hkt.1⟩
      have HKL := Lib.hid (kids_lt HSZ.out hkt)
      have HSC := Lib.hid (sc_node HSZ.out HP.out HINN.out hkt)
      have hpr : ps.length ≤ R.length := by have := hkt.2.1; rwa [List.length_reverse] at this
      clear hkt
      have HNDI : Hid (∀ m, m < ps.length → ¬ orM ((mskT ts).take k) (ps.take m) &&& ((mskT ts).take k).getD (ps.getD m 0).toNat 0 = 0 → ¬ DisP (mskT ts) ⟨pk, 0, ps⟩) := Lib.hid fun m hm hn h => hn ((disj_take (p := ⟨pk, 0, ps⟩) HKL.out).2 h m hm)
      have HYDI : Hid ((∀ q, q < ps.length → orM ((mskT ts).take k) (ps.take q) &&& ((mskT ts).take k).getD (ps.getD q 0).toNat 0 = 0) → RisE (mskT ts) ⟨pk, 0, ps⟩ ∧ DisP (mskT ts) ⟨pk, 0, ps⟩) := Lib.hid fun h => ⟨kids_ris HSZ.out HKT.out, (disj_take (p := ⟨pk, 0, ps⟩) HKL.out).1 h⟩
      rcases hk2 with rfl | rfl | rfl
      all_goals
        go_upto_region 17 with (go_at_call 115; refine (goodKids_any _ _ _ ps R.reverse _ _ (HKN.out.below HBA.out) HON.out HVS.out HRK.out HMK.out HTW.out).mono ?_; rintro e w2 ⟨he, hb2⟩; rw [hd] at he; subst he)
        have HBE : Hid (Below wr.heap.size wr w2) := Lib.hid (HBA.out.trans (hb2.mono HBA.out.size))
        have HKN2 := Lib.hid (HKN.out.below HBE.out)
        have HVS2 := Lib.hid (HVS.out.below hb2)
        have HB2 := Lib.hid hb2
        have z2' := hb2.at' z2
        clear hb2 z0 z1 z2 hd n1 hz0
        go_wp2
        obtain ⟨wo, rfl⟩ : ∃ wo, wo = wr := ⟨_, rfl⟩
        go_loopw [8, 10, 56] (fun s _ i wx => ∃ m : Nat, m ≤ ps.length ∧ i = .int .i64 m ∧ s = .int .u32 (orM ((mskT ts).take k) (ps.take m) : Nat) ∧ (∀ q, q < m → orM ((mskT ts).take k) (ps.take q) &&& ((mskT ts).take k).getD (ps.getD q 0).toNat 0 = 0) ∧ Below w2.heap.size w2 wx) (fun _ _ i _ => ps.length - (intOf i).toNat)
        case atStart => exact ⟨0, Nat.zero_le _, rfl, rfl, fun q hq => by omega, Below.refl _ _⟩
        case round =>
          obtain ⟨m, hm, rfl, rfl, hdis, hbx⟩ := hrel
          have HD := Lib.hid hdis
          have HBX := Lib.hid hbx
          have hor16 : orM ((mskT ts).take k) (ps.take m) < 65536 := orM_lt fun x hx => by
            have := HKL.out x (List.mem_of_mem_take hx)
            exact (HMK.out x.toNat (by rw [HMLH.out]; omega)).1
          clear hdis
          by_cases hml : m < ps.length
          · obtain ⟨kb, ko, e, hck⟩ : ∃ b o, rp = some ⟨b, o, none⟩ ∧ wr.cell? ⟨b, o + m, none⟩ = some (.int .i64 ps[m]) := by
              obtain ⟨p', c', e, _, _, _, hat⟩ := HKN2.out.below hbx
              cases e
              exact hat.num hml
            subst e
            have hx := HKL.out ps[m] (List.getElem_mem _)
            obtain ⟨x, hxe⟩ : ∃ x : Nat, ps[m] = (x : Int) := ⟨ps[m].toNat, by omega⟩
            have HXE := Lib.hid hxe
            rw [hxe] at hck hx
            have hxk : x < k := by omega
            obtain ⟨lb, lo, e, hcl⟩ := (HVS2.out.below hbx).at (k := x) (by rw [HMLH.out]; exact hxk)
            subst e
            obtain ⟨mx, hmx⟩ : ∃ mx, ((mskT ts).take k).getD x 0 = mx := ⟨_, rfl⟩
            have hmx16 : mx < 65536 := by rw [← hmx]; exact (HMK.out x (by rw [HMLH.out]; exact hxk)).1
            have HMX := Lib.hid hmx
            rw [hmx] at hcl
            obtain ⟨a, ha⟩ : ∃ a, orM ((mskT ts).take k) (ps.take m) = a := ⟨_, rfl⟩
            have HA := Lib.hid ha
            rw [ha] at hor16 ⊢
            have HND := Lib.hid (u32_and_nat a mx (by omega) (by omega))
            have HOR := Lib.hid (or_u32 a mx hor16 hmx16)
            clear hmx hxe ha hbx
            by_cases h0 : a &&& mx = 0
            case neg =>
              have hne : (((a &&& mx : Nat) : Int) != 0) = true := by simpa using h0
              have hbn : bits BinOp.and IntKind.u32 (a : Int) (mx : Int) = ((a &&& mx : Nat) : Int) := HND.out
              have HN := Lib.hid (HNDI.out m hml (fun h => h0 (by rwa [getD_atT hml, HXE.out, Int.toNat_natCast, HMX.out, HA.out] at h)))
              clear h0
              go_wp2
              go_ret2
              exact NO.out _ _ (fun h => HN.out h.2) (HB2.out.trans (HBX.out.mono HB2.out.size))
            have hne : (((a &&& mx : Nat) : Int) != 0) = false := by simp [h0]
            have hbn : bits BinOp.and IntKind.u32 (a : Int) (mx : Int) = ((a &&& mx : Nat) : Int) := HND.out
            have H0 := Lib.hid h0
            clear h0
            go_wp2
            go_roundw
            case rel =>
              refine ⟨m + 1, by omega, by go_num, ?_, fun q hq => ?_, HBX.out⟩
              · refine val_int ?_
                rw [HOR.out, List.take_succ_eq_append_getElem hml, orM_snoc, HXE.out, Int.toNat_natCast, HMX.out, HA.out]
              · by_cases e : q = m
                · subst e
                  rw [getD_atT hml, HXE.out, Int.toNat_natCast, HMX.out, HA.out]
                  exact H0.out
                · exact HD.out q (by omega)
            case measure => simp [intOf]; omega
          · obtain rfl : m = ps.length := by omega
            rw [List.take_length] at hor16 ⊢
            obtain ⟨a, ha⟩ : ∃ a, orM ((mskT ts).take k) ps = a := ⟨_, rfl⟩
            have HA := Lib.hid ha
            rw [ha] at hor16 ⊢
            have HCT : Hid (∀ (j : Nat) (p : Pt), j < k + 1 → ts[j]? = some p → RisE (mskT ts) p ∧ DisP (mskT ts) p) := Lib.hid fun j p hj hp => by
              by_cases e : j = k
              · subst e
                obtain rfl := Option.some.inj (hp.symm.trans HP.out)
                exact HYDI.out fun q hq => HD.out q hq
              · exact HI.out.ct j p (by omega) hp
            have HBF : Hid (Below wo.heap.size wo wr) := Lib.hid (HBE.out.trans (hbx.mono HBE.out.size))
            have z2w := hbx.at' z2'
            replace HOP := Lib.hid (ownsRow_cutTe HOP.out (k := R.length - ps.length) (by omega))
            obtain ⟨rl, hrl2⟩ : ∃ rl, R.length - ps.length = rl := ⟨_, rfl⟩
            have HRL := Lib.hid hrl2
            rw [hrl2] at HOP
            have hol2 : rl < 1000000000 := by omega
            have hsub : IntKind.i64.wrap ((R.length : Int) - (ps.length : Int)) = (rl : Int) := by rw [IntKind.wrap_i64]; omega
            have hroc : rl ≤ oc := by
              rcases HOP.out.2 with ⟨e, _⟩ | ⟨g, cap, cur, e, _, _, h, _⟩
              · cases e; omega
              · cases e; exact h
            clear ha hbx z2'
            go_upto_region 25 with fail
            have ho5 := ownsRow_below HOP.out HBF.out
            have hl5 := ownsRow_below HLV.out HBF.out
            have hsB := HBF.out.size
            have hsW := HBW.out.size
            go_wp2_with (first
              | (at_builtin; refine wpList_app1s ty_int rfl rfl rfl ho5 rfl rfl hol2 (by omega) ?_; intro b6 c6 w6 hown6 hg6 _; have BG6 : Below w.heap.size w w6 := below_grown (Below.trans HBW.out (HBF.out.mono HBW.out.size)) ho5 hg6 (Nat.le_refl _) (by omega); have hl6 := ownsRow_other hl5 ho5 hg6 (by decide); have hs6 := hg6.size)
              | (at_builtin; refine wpList_app1s ty_vsets rfl rfl rfl hl6 rfl rfl hkl9 (by omega) ?_; intro b7 c7 w7 hown7 hg7 _; have BG7 := below_grown BG6 hl6 hg7 (Nat.le_refl _) (by omega); have ho7 := ownsRow_other hown6 hl6 hg7 (by decide)))
            go_roundw
            case rel =>
              refine ⟨k + 1, k :: R.drop ps.length, by omega, by go_num, HSC.out.1, HCT.out, BG7, ?_, ?_⟩
              · have := ho7; rw [List.reverse_cons, natInts_appTe, List.map_append, show (natInts (R.drop ps.length).reverse) = (natInts R.reverse).take rl from (by rw [← HRL.out]; exact drop_revTe hpr), List.map_take, List.length_cons, List.length_drop, HRL.out]; exact this
              · rw [List.take_succ_eq_append_getElem (show k < (mskT ts).length by rw [mskT_length]; exact hlt), List.map_append]
                have e : (mskT ts)[k]'(by rw [mskT_length]; exact hlt) = a := by rw [← HA.out, ← HSC.out.2]; exact (getD_atT (by rw [mskT_length]; exact hlt)).symm
                rw [e]
                exact hown7
            case measure => simp [intOf]; omega
    · obtain rfl : k = ts.length := by omega
      have hend := tparts_end HSZ.out (fun j p hj hp => HI.out.ct j p hj hp)
      by_cases h1 : R.length = 1
      case neg =>
        have hne : ((R.length : Int) != 1) = true := by simp; omega
        have HN := Lib.hid (false_dec (show ¬ PartsI ts from fun h => h1 (hend.1 h).1))
        clear h1 hend
        go_wp2
        go_ret2
        exact ⟨_, false, rfl, HN.out, (fun e => by cases e), HBW.out⟩
      obtain ⟨n, hn⟩ : ∃ n, ts.length = n + 1 := ⟨ts.length - 1, by have := hrl; omega⟩
      obtain ⟨hm16, hm0⟩ := root_msk HSZ.out (by omega)
      have HVS : Hid (VS wr (.slice lp ts.length lc) (mskT ts)) := Lib.hid (by
        have h := Sl.of_owns HLV.out (by omega)
        rw [List.take_of_length_le (by rw [mskT_length]; exact Nat.le_refl _)] at h
        unfold VS
        rw [mskT_length]
        exact h)
      obtain ⟨a, ha⟩ : ∃ a, rootM ts = a := ⟨_, rfl⟩
      obtain ⟨lb, lo, e, hcl⟩ := HVS.out.at (k := ts.length - 1) (by rw [mskT_length]; omega)
      subst e
      rw [show (mskT ts).getD (ts.length - 1) 0 = rootM ts from rfl, ha] at hcl
      rw [ha] at hm16 hm0 hend
      have hc16 : cn a ≤ 16 := cn_le16 hm16
      obtain ⟨c, hc⟩ : ∃ c, (bitsOf a).length = c := ⟨_, rfl⟩
      have hc32 : c < 32 := by unfold cn at hc16; omega
      have HEND : Hid (PartsI ts ↔ a = 2 ^ c - 1) := Lib.hid (by rw [hend]; unfold cn; rw [hc]; exact ⟨fun h => h.2, fun h => ⟨h1, h⟩⟩)
      have HC := Lib.hid hc
      have h1e : ((R.length : Int) != 1) = false := by simp [h1]
      have hwr : IntKind.i64.wrap ((ts.length : Int) - 1) = ((ts.length - 1 : Nat) : Int) := by rw [IntKind.wrap_i64]; omega
      obtain ⟨d, hd⟩ : ∃ d, ts.length - 1 = d := ⟨_, rfl⟩
      rw [hd] at hcl hwr
      have hdl : d < ts.length := by omega
      have hdi : ((d : Nat) : Int) < (ts.length : Int) := by omega
      have hlen1 : (1 : Int) ≤ (ts.length : Int) := by omega
      have HNE : Hid ((2 ^ c - 1 : Nat) < 4294967296) := Lib.hid (by have := pow_lt32 c hc32; omega)
      clear hn hd hend hc hc16 ha h1
      go_wp2_with (first
        | (go_at_call 49; refine (size16_any _ a rfl hm16 _).mono ?_; rintro e w2 ⟨he, q, rfl⟩; rw [HC.out] at he; subst he)
        | (go_at_call 90; refine (firstOf_any _ c rfl hc32 _).mono ?_; rintro e w3 ⟨rfl, rfl⟩))
      go_ret2
      refine ⟨_, _, rfl, ?_, fun _ => HVS.out.below (below_dN (Below.refl _ _) q), below_dN HBW.out q⟩
      by_cases h : PartsI ts
      · rw [dec_true h, HEND.out.1 h]; simp
      · rw [dec_false h]
        have : a ≠ 2 ^ c - 1 := fun e => h (HEND.out.2 e)
        simp
        omega

theorem leaves_yes (v : Value) (ts : List Pt) (w : World) (h : Trs w v ts) (hT : Tab w) (hp : PartsI ts) :
    Calls Tryd.prog 48 #[v] w fun e w' => ∃ lv, e = .returned (.tuple #[lv, .bool true]) ∧ VS w' lv (mskT ts) ∧ Below w.heap.size w w' :=
  (subtreeLeaves_any v ts w h hT).mono fun e w' ⟨lv, ok, h1, h2, h3, h4⟩ => by
    rw [dec_true hp] at h2
    subst h2
    exact ⟨lv, h1, h3 rfl, h4⟩
theorem leaves_no (v : Value) (ts : List Pt) (w : World) (h : Trs w v ts) (hT : Tab w) (hp : ¬ PartsI ts) :
    Calls Tryd.prog 48 #[v] w fun e w' => ∃ lv, e = .returned (.tuple #[lv, .bool false]) ∧ Below w.heap.size w w' :=
  (subtreeLeaves_any v ts w h hT).mono fun e w' ⟨lv, ok, h1, h2, h3, h4⟩ => by
    rw [dec_false hp] at h2
    subst h2
    exact ⟨lv, h1, h4⟩

end Go.Proofs.YtfphapcgjlhieaaDoor
