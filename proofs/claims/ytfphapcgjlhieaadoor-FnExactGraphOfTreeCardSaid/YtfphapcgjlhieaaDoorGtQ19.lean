/- Plain: what the program asks of one node. -/
import Derived.Test.YtfphapcgjlhieaaDoorGtQ15
import Derived.Test.YtfphapcgjlhieaaDoorGtQ16
import Derived.Deep.DeepCutAuto
namespace Go.Proofs.YtfphapcgjlhieaaDoor

/-- What goodKids asks. -/
def KidsT (s : List Int) (O M : List Nat) : Prop := 2 ≤ s.length ∧ s.length ≤ O.length ∧ s = natInts (O.drop (O.length - s.length)) ∧ RisE M ⟨0, 0, s⟩
theorem natInts_rev (l : List Nat) : (natInts l).reverse = natInts l.reverse := by simp [natInts]
theorem risE_congr {M M' : List Nat} {a b c d : Int} {s : List Int} (h : ∀ k ∈ s, M.getD k.toNat 0 = M'.getD k.toNat 0) : RisE M ⟨a, b, s⟩ ↔ RisE M' ⟨c, d, s⟩ := by
  have key : ∀ m, m < s.length → M.getD (s.getD m 0).toNat 0 = M'.getD (s.getD m 0).toNat 0 := fun m hm => h _ (by rw [getD_atT hm]; exact List.getElem_mem _)
  constructor
  · intro hr m hm
    have := hr m hm
    simp only at this hm ⊢
    rw [key m (by omega), key (m + 1) hm] at this
    exact this
  · intro hr m hm
    have := hr m hm
    simp only at this hm ⊢
    rw [← key m (by omega), ← key (m + 1) hm] at this
    exact this
theorem last_iff {s : List Int} {R : List Nat} (h : s.length ≤ R.length) : s = natInts (R.reverse.drop (R.reverse.length - s.length)) ↔ s.reverse = natInts (R.take s.length) := by
  have e : R.reverse.drop (R.reverse.length - s.length) = (R.take s.length).reverse := by
    rw [List.length_reverse, List.drop_reverse, show R.length - (R.length - s.length) = s.length by omega]
  rw [e, ← natInts_rev]
  constructor
  · intro h1
    have := congrArg List.reverse h1
    rwa [List.reverse_reverse] at this
  · intro h1
    have := congrArg List.reverse h1
    rwa [List.reverse_reverse] at this

theorem kids_last {p : Pt} {R M : List Nat} (h : KidsT p.s R.reverse M) : LastP R p := by
  have h2 := h.2.1
  rw [List.length_reverse] at h2
  exact ⟨h2, (last_iff h2).1 h.2.2.1⟩
theorem kids_lt {ts : List Pt} {k : Nat} {R : List Nat} (hs : scT ts k 0 [] = some R) {s : List Int} {M : List Nat} (h : KidsT s R.reverse M) : ∀ x ∈ s, 0 ≤ x ∧ x < k := fun x hx => by
  rw [h.2.2.1, mem_natInts] at hx
  obtain ⟨i, hi, rfl⟩ := hx
  have := (sc_good _ _ hs).1 i (List.mem_reverse.1 (List.mem_of_mem_drop hi))
  omega
theorem kids_ris {ts : List Pt} {k : Nat} {R : List Nat} (hs : scT ts k 0 [] = some R) {p : Pt} (h : KidsT p.s R.reverse ((mskT ts).take k)) : RisE (mskT ts) p :=
  (risE_congr fun x hx => getD_take (by have := kids_lt hs h x hx; omega)).1 h.2.2.2
theorem parts_scT {ts : List Pt} (h : PartsI ts) {k : Nat} (hk : k < ts.length) {R : List Nat} (hs : scT ts k 0 [] = some R) : ∃ R', stT ts k R = some R' := by
  have h1 := h.1
  rw [show ts.length = (k + 1) + (ts.length - (k + 1)) by omega, scT_add, scT_snoc, hs] at h1
  have h1 : (stT ts k R).bind _ = _ := h1
  cases hr : stT ts k R with
  | none => rw [hr] at h1; cases h1
  | some R' => exact ⟨R', rfl⟩
theorem tparts_step {ts : List Pt} (h : PartsI ts) {k : Nat} {R : List Nat} {p : Pt} (hs : scT ts k 0 [] = some R) (hp : ts[k]? = some p) :
    (LeafP p ∨ (InnP p ∧ KidsT p.s R.reverse ((mskT ts).take k))) ∧ DisP (mskT ts) p := by
  obtain ⟨h1, h2⟩ := h.2.2.1 k p hp
  refine ⟨?_, h2⟩
  obtain ⟨R', hr⟩ := parts_scT h (List.getElem?_eq_some_iff.1 hp).1 hs
  obtain ⟨p', hp', hh⟩ := stT_some hr
  obtain rfl : p = p' := Option.some.inj (hp.symm.trans hp')
  rcases hh with ⟨hl, _⟩ | ⟨hi, hla, _⟩
  · exact .inl hl
  · have hle : p.s.length ≤ R.length := hla.1
    have hk := (last_iff hle).2 hla.2
    refine .inr ⟨hi, hi.2.2, by rw [List.length_reverse]; exact hle, hk, (risE_congr fun x hx => ?_).1 h1⟩
    refine (getD_take ?_).symm
    rw [hk, mem_natInts] at hx
    obtain ⟨i, hx, rfl⟩ := hx
    have := (sc_good _ _ hs).1 i (List.mem_reverse.1 (List.mem_of_mem_drop hx))
    omega
theorem leaf_disj {ts : List Pt} {p : Pt} (h : LeafP p) : RisE (mskT ts) p ∧ DisP (mskT ts) p := ⟨fun m hm => (by rw [h.2.2.2] at hm; cases hm), fun m hm => (by rw [h.2.2.2] at hm; cases hm)⟩
theorem sc_leaf {ts : List Pt} {k : Nat} {R : List Nat} {p : Pt} (hs : scT ts k 0 [] = some R) (hp : ts[k]? = some p) (h : LeafP p) : scT ts (k + 1) 0 [] = some (k :: R) ∧ (mskT ts).getD k 0 = 2 ^ p.v.toNat := by
  refine ⟨?_, ?_⟩
  · rw [scT_snoc, hs]
    exact stT_leaf hp h
  · rw [mskT_at hp, msk1, if_pos h.1]
theorem sc_node {ts : List Pt} {k : Nat} {R : List Nat} {p : Pt} (hs : scT ts k 0 [] = some R) (hp : ts[k]? = some p) (h : InnP p) (hk : KidsT p.s R.reverse ((mskT ts).take k)) :
    scT ts (k + 1) 0 [] = some (k :: R.drop p.s.length) ∧ (mskT ts).getD k 0 = orM ((mskT ts).take k) p.s := by
  refine ⟨?_, ?_⟩
  · rw [scT_snoc, hs]
    exact stT_inn hp h (kids_last hk)
  · rw [mskT_at hp, msk1, if_neg (by rcases h.1 with h | h | h <;> omega)]
theorem disj_take {ts : List Pt} {k : Nat} {p : Pt} (hk : ∀ x ∈ p.s, 0 ≤ x ∧ x < k) : DisP ((mskT ts).take k) p ↔ DisP (mskT ts) p := by
  have key : ∀ x ∈ p.s, ((mskT ts).take k).getD x.toNat 0 = (mskT ts).getD x.toNat 0 := fun x hx => getD_take (by have := hk x hx; omega)
  have k2 : ∀ m, m < p.s.length → orM ((mskT ts).take k) (p.s.take m) = orM (mskT ts) (p.s.take m) := fun m hm => orM_congr fun x hx => key x (List.mem_of_mem_take hx)
  have k3 : ∀ m, m < p.s.length → ((mskT ts).take k).getD (p.s.getD m 0).toNat 0 = (mskT ts).getD (p.s.getD m 0).toNat 0 := fun m hm => key _ (by rw [getD_atT hm]; exact List.getElem_mem _)
  constructor
  · intro h m hm
    have := h m hm
    rwa [k2 m hm, k3 m hm] at this
  · intro h m hm
    have := h m hm
    rwa [k2 m hm, k3 m hm]
theorem tparts_end {ts : List Pt} {R : List Nat} (hs : scT ts ts.length 0 [] = some R) (hc : ∀ (j : Nat) (p : Pt), j < ts.length → ts[j]? = some p → RisE (mskT ts) p ∧ DisP (mskT ts) p) :
    PartsI ts ↔ R.length = 1 ∧ rootM ts = 2 ^ cn (rootM ts) - 1 := by
  constructor
  · intro h
    have := hs.symm.trans h.1
    obtain rfl := Option.some.inj this
    exact ⟨rfl, h.2.2.2⟩
  · rintro ⟨h1, h2⟩
    obtain ⟨rfl, h0⟩ := sc_root hs h1
    exact ⟨hs, h0, fun j p hp => hc j p (List.getElem?_eq_some_iff.1 hp).1 hp, h2⟩
theorem root_msk {ts : List Pt} {R : List Nat} (hs : scT ts ts.length 0 [] = some R) (h0 : 1 ≤ ts.length) : rootM ts < 65536 ∧ rootM ts ≠ 0 := msk_ok _ (sc_good _ _ hs).2 _ (by omega)

theorem orM_lt {M : List Nat} {l : List Int} (h : ∀ k ∈ l, M.getD k.toNat 0 < 65536) : orM M l < 65536 := by
  refine Nat.lt_of_not_le fun hle => ?_
  obtain ⟨b, hb, hbit⟩ : ∃ b, 16 ≤ b ∧ (orM M l).testBit b = true := Nat.exists_ge_and_testBit_of_ge_two_pow (n := 16) (by simpa using hle)
  obtain ⟨k, hk, hkb⟩ := (orM_bit _ _ _).1 hbit
  rw [Nat.testBit_lt_two_pow (Nat.lt_of_lt_of_le (h k hk) (by have := Nat.pow_le_pow_right (n := 2) (by decide) hb; simpa using this))] at hkb
  cases hkb

end Go.Proofs.YtfphapcgjlhieaaDoor

/- Walk: the reference goes through a tree from its root. -/
namespace Go.Proofs.YtfphapcgjlhieaaDoor
open Go.RowKit

def wkI : Option Nat → Int
  | none => -1
  | some n => n
theorem ret_wk {z : Int} {o : Option Nat} (h : z = wkI o) : Ending.returned (Value.int .i64 z) = .returned (.int .i64 (wkI o)) := by rw [h]

set_option maxRecDepth 100000 in
set_option maxHeartbeats 4000000 in
theorem l16Walk_any (vp : Option Addr) (vc : Nat) (ts : List Pt) (hlen : ts.length ≤ 31) : ∀ (f x : Nat), x < f → x < ts.length → ∀ (w : World), Trs w (.slice vp ts.length vc) ts →
    Calls Tryd.prog 130 #[.slice vp ts.length vc, .int .i64 x] w fun e w' => e = .returned (.int .i64 (wkI (wkT ts f x))) ∧ Below w.heap.size w w'
  | 0, x, h, _ => absurd h (Nat.not_lt_zero _)
  | f + 1, x, hx, hxl => fun w htr => by
    have IH := Lib.hid (fun y (hy : y < f) => l16Walk_any vp vc ts hlen f y hy)
    have HTR := Lib.hid htr
    obtain ⟨⟨pk, pv, ps⟩, hp⟩ : ∃ p, ts[x]? = some p := ⟨_, List.getElem?_eq_getElem hxl⟩
    obtain ⟨b, o, rp, rc, rfl, c0, c1, c2, hkn, hkl⟩ := htr.at hp
    have HKN := Lib.hid hkn
    have HP := Lib.hid hp
    simp only at c0 c1 c2 hkl
    obtain ⟨W, hW⟩ : ∃ W, W = w.alloc (.cells #[.int .i64 pk, .int .i64 pv, .slice rp ps.length rc] 54) := ⟨_, rfl⟩
    have HB : Hid (Below w.heap.size w W) := Lib.hid (by rw [hW]; exact below_alloc _ _)
    obtain ⟨z0, z1, z2⟩ := cells3Te w (.int .i64 pk) (.int .i64 pv) (.slice rp ps.length rc) 54
    rw [← hW] at z0 z1 z2
    have NO : Hid (¬ LeafP ⟨pk, pv, ps⟩ → ¬ InnP ⟨pk, pv, ps⟩ → -1 = wkI (wkT ts (f + 1) x)) := Lib.hid fun h1 h2 => by
      simp only [wkT, HP.out, dec_false h1, dec_false h2]
      rfl
    clear hkn hp htr
    go_enter Tryd.func130, Tryd.ntmps130
    go_upto_region 2 with fail
    rw [← hW]
    clear hW c0 c1 c2
    by_cases hk1 : pk = 1
    · subst hk1
      have HNI : Hid (¬ InnP ⟨1, pv, ps⟩) := Lib.hid fun h => by rcases h.1 with h | h | h <;> simp at h
      by_cases hs0 : ps.length = 0
      case neg =>
        have hs0' : (0 : Int) < (ps.length : Int) := by omega
        have HL : Hid (¬ LeafP ⟨1, pv, ps⟩) := Lib.hid fun h => hs0 (by have := h.2.2.2; simp only at this; rw [this]; rfl)
        go_wp2
        go_ret
        exact ⟨ret_wk (NO.out HL.out HNI.out), HB.out⟩
      obtain rfl := List.eq_nil_of_length_eq_zero hs0
      clear hs0
      by_cases hv : 0 ≤ pv ∧ pv ≤ 15
      · have hd := dec_true hv
        have HL : Hid (LeafP ⟨1, pv, []⟩) := Lib.hid ⟨rfl, hv.1, by simp only; omega, rfl⟩
        clear hv
        go_wp2_with (go_at_call 60; refine (l1In_any pv 0 15 _).mono ?_; rintro e w2 ⟨he, rfl⟩; rw [hd] at he; subst he)
        go_ret
        exact ⟨ret_wk (by rw [wkT_leaf HP.out HL.out]; rfl), HB.out⟩
      · have hd := dec_false hv
        have HL : Hid (¬ LeafP ⟨1, pv, []⟩) := Lib.hid fun h => hv ⟨h.2.1, by have := h.2.2.1; simp only at this; omega⟩
        clear hv
        go_wp2_with (go_at_call 60; refine (l1In_any pv 0 15 _).mono ?_; rintro e w2 ⟨he, rfl⟩; rw [hd] at he; subst he)
        go_ret
        exact ⟨ret_wk (NO.out HL.out HNI.out), HB.out⟩
    have n1 : (pk == 1) = false := by simp; omega
    have HL : Hid (¬ LeafP ⟨pk, pv, ps⟩) := Lib.hid fun h => hk1 h.1
    by_cases hk2 : 2 ≤ pk ∧ pk ≤ 4
    case neg =>
      have hd := dec_false hk2
      have HN : Hid (¬ InnP ⟨pk, pv, ps⟩) := Lib.hid fun h => hk2 (by rcases h.1 with h | h | h <;> simp only at h <;> omega)
      clear hk1 hk2
      go_wp2_with (go_at_call 60; refine (l1In_any pk 2 4 _).mono ?_; rintro e w2 ⟨he, rfl⟩; rw [hd] at he; subst he)
      go_ret
      exact ⟨ret_wk (NO.out HL.out HN.out), HB.out⟩
    have hd := dec_true hk2
    by_cases hv0 : pv = 0
    case neg =>
      have hv0' : (pv != 0) = true := by simpa using hv0
      have HN : Hid (¬ InnP ⟨pk, pv, ps⟩) := Lib.hid fun h => hv0 h.2.1
      clear hk1 hk2 hv0
      go_wp2_with (go_at_call 60; refine (l1In_any pk 2 4 _).mono ?_; rintro e w2 ⟨he, rfl⟩; rw [hd] at he; subst he)
      go_ret
      exact ⟨ret_wk (NO.out HL.out HN.out), HB.out⟩
    subst hv0
    by_cases hl2 : ps.length < 2
    · have hl2' : (ps.length : Int) < 2 := by omega
      have HN : Hid (¬ InnP ⟨pk, 0, ps⟩) := Lib.hid fun h => by have := h.2.2; simp only at this; omega
      clear hk1 hk2
      go_wp2_with (go_at_call 60; refine (l1In_any pk 2 4 _).mono ?_; rintro e w2 ⟨he, rfl⟩; rw [hd] at he; subst he)
      go_ret
      exact ⟨ret_wk (NO.out HL.out HN.out), HB.out⟩
    have hl2' : ¬ (ps.length : Int) < 2 := by omega
    have HI : Hid (InnP ⟨pk, 0, ps⟩) := Lib.hid ⟨by simp only; omega, rfl, by simp only; omega⟩
    have HWK : Hid (wkT ts (f + 1) x = (wkK (wkT ts f) (ps.take ps.length).reverse ((x : Int) - 1)).map (1 + ·)) := Lib.hid (by rw [List.take_length]; exact wkT_inn HP.out HI.out)
    have hx31 : x < 31 := by omega
    clear hk1 hk2
    go_wp2_with (go_at_call 60; refine (l1In_any pk 2 4 _).mono ?_; rintro e w2 ⟨he, rfl⟩; rw [hd] at he; subst he)
    go_loopw [6, 7, 8] (fun mv nv kv wr => ∃ (many : Nat) (next : Int) (j : Nat), mv = .int .i64 many ∧ nv = .int .i64 next ∧ kv = .int .i64 ((j : Int) - 1) ∧ j ≤ ps.length ∧ 1 ≤ many ∧ (many : Int) + next = x ∧ -1 ≤ next ∧
      wkT ts (f + 1) x = (wkK (wkT ts f) (ps.take j).reverse next).map (many + ·) ∧ Below W.heap.size W wr) (fun _ _ k _ => (intOf k + 1).toNat)
    case atStart => exact ⟨1, (x : Int) - 1, ps.length, rfl, val_int (by omega), val_int (by omega), Nat.le_refl _, Nat.le_refl _, by omega, by omega, HWK.out, Below.refl _ _⟩
    case round =>
      obtain ⟨many, next, j, rfl, rfl, rfl, hj, hm1, hmn, hn1, hwk, hbr⟩ := hrel
      clear HWK
      have HK := Lib.hid hwk
      have HBR := Lib.hid hbr
      have z2r := hbr.at' z2
      have NO2 : Hid (wkT ts (f + 1) x = none → -1 = wkI (wkT ts (f + 1) x)) := Lib.hid fun h => by rw [h]; rfl
      clear hwk
      cases j with
      | zero =>
        have hj0 : (((0 : Nat) : Int) - 1) = -1 := rfl
        rw [hj0]
        go_wp2
        go_ret
        refine ⟨ret_wk ?_, HB.out.trans (hbr.mono HB.out.size)⟩
        rw [HK.out]
        simp [wkK, wkI]
      | succ q =>
        have hjq : (((q + 1 : Nat) : Int) - 1) = (q : Int) := by omega
        rw [hjq]
        have hql : q < ps.length := hj
        have HTK : Hid ((ps.take (q + 1)).reverse = ps[q] :: (ps.take q).reverse) := Lib.hid (by rw [List.take_succ_eq_append_getElem hql, List.reverse_append]; rfl)
        obtain ⟨y, hy⟩ : ∃ y, ps[q] = y := ⟨_, rfl⟩
        have HY := Lib.hid hy
        obtain ⟨kb, ko, e, hck⟩ : ∃ b o, rp = some ⟨b, o, none⟩ ∧ wr.cell? ⟨b, o + q, none⟩ = some (.int .i64 y) := by
          obtain ⟨p', c', e, _, _, _, hat⟩ := HKN.out.below (HB.out.trans (hbr.mono HB.out.size))
          cases e
          rw [← hy]
          exact hat.num hql
        subst e
        rw [hy] at HTK
        clear hy hbr hjq hj
        by_cases hn0 : next < 0
        · have HN : Hid (wkT ts (f + 1) x = none) := Lib.hid (by
            rw [HK.out, HTK.out]
            unfold wkK
            rw [if_neg (by omega)]; rfl)
          go_wp2
          go_ret
          exact ⟨ret_wk (NO2.out HN.out), HB.out.trans (HBR.out.mono HB.out.size)⟩
        by_cases hyn : y = next
        case neg =>
          have hne : (y != next) = true := by simpa using hyn
          have HN : Hid (wkT ts (f + 1) x = none) := Lib.hid (by
            rw [HK.out, HTK.out]
            unfold wkK
            rw [if_neg (by omega)]; rfl)
          clear hyn
          go_wp2
          go_ret
          exact ⟨ret_wk (NO2.out HN.out), HB.out.trans (HBR.out.mono HB.out.size)⟩
        subst hyn
        obtain ⟨t, rfl⟩ : ∃ t : Nat, y = (t : Int) := ⟨y.toNat, by omega⟩
        have hne : ((t : Int) != (t : Int)) = false := by simp
        have htx : t < x := by omega
        have htl : t < ts.length := by omega
        have htf : t < f := by omega
        cases hr : wkT ts f t with
        | none =>
          have HR := Lib.hid hr
          have HN : Hid (wkT ts (f + 1) x = none) := Lib.hid (by
            rw [HK.out, HTK.out]
            unfold wkK
            rw [if_pos ⟨by omega, rfl⟩, Int.toNat_natCast, hr]; rfl)
          clear hr
          go_wp2_with (go_at_call 130; refine (IH.out t htf htl _ (HTR.out.below (HB.out.trans (HBR.out.mono HB.out.size)))).mono ?_; rintro e w2 ⟨he, hb2⟩; rw [HR.out] at he; simp only [wkI] at he; subst he)
          go_ret
          exact ⟨ret_wk (NO2.out HN.out), HB.out.trans ((HBR.out.trans (hb2.mono HBR.out.size)).mono HB.out.size)⟩
        | some n =>
          have HR := Lib.hid hr
          obtain ⟨g1, g2, _⟩ := wkT_sc ts f t n hr
          have HN : Hid (wkT ts (f + 1) x = (wkK (wkT ts f) (ps.take q).reverse ((t : Int) - n)).map (many + n + ·)) := Lib.hid (by
            rw [HK.out, HTK.out, wkK, if_pos ⟨by omega, rfl⟩, Int.toNat_natCast, hr]
            show ((wkK (wkT ts f) (ps.take q).reverse ((t : Int) - n)).map (n + ·)).map (many + ·) = _
            rw [Option.map_map]
            congr 1
            funext z
            show many + (n + z) = many + n + z
            omega)
          clear hr
          have hn0' : ¬ ((n : Int) < 0) := by omega
          go_wp2_with (go_at_call 130; refine (IH.out t htf htl _ (HTR.out.below (HB.out.trans (HBR.out.mono HB.out.size)))).mono ?_; rintro e w2 ⟨he, hb2⟩; rw [HR.out] at he; simp only [wkI] at he; subst he)
          go_roundw
          case rel =>
            exact ⟨many + n, (t : Int) - n, q, by go_num, by go_num, by go_num, by omega, by omega, by omega, by omega, HN.out, HBR.out.trans (hb2.mono HBR.out.size)⟩
          case measure => simp [intOf]

end Go.Proofs.YtfphapcgjlhieaaDoor
