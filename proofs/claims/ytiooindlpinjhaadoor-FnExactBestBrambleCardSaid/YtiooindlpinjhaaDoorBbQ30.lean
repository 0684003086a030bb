/- Walk: the program's least width after a set (widths.after), by recursion on who is left. -/
import Derived.Test.YtiooindlpinjhaaDoorBbQ29
import Derived.Test.YtiooindlpinjhaaDoorBbQ5
namespace Go.Proofs.YtiooindlpinjhaaDoor
open Go.RowKit Go.Maps

/-- The least of sixteen and all. -/
def mnF (l : List Nat) : Nat := l.foldl min 16
theorem mnF_snoc (l : List Nat) (x : Nat) : mnF (l ++ [x]) = min (mnF l) x := by simp [mnF]
theorem foldMn : ∀ (l : List Nat) (a : Nat), l.foldl min a ≤ a ∧ (∀ x ∈ l, l.foldl min a ≤ x) ∧ (l.foldl min a = a ∨ ∃ x ∈ l, l.foldl min a = x)
  | [], a => ⟨Nat.le_refl _, fun _ h => absurd h (by simp), .inl rfl⟩
  | y :: l, a => by
    obtain ⟨h1, h2, h3⟩ := foldMn l (min a y)
    have e : (y :: l).foldl min a = l.foldl min (min a y) := rfl
    rw [e]
    refine ⟨by omega, fun x hx => ?_, ?_⟩
    · rcases List.mem_cons.1 hx with rfl | hx
      · omega
      · exact h2 x hx
    · rcases h3 with h3 | ⟨x, hx, h3⟩
      · by_cases e : a ≤ y
        · exact .inl (by omega)
        · exact .inr ⟨y, List.mem_cons_self .., by omega⟩
      · exact .inr ⟨x, List.mem_cons_of_mem _ hx, h3⟩
theorem mnF_le16 (l : List Nat) : mnF l ≤ 16 := (foldMn l 16).1
theorem mnF_tw {n : Nat} (hn : n ≤ 16) {E : Nat → Nat → Bool} {s : Nat} (hne : freeS n s ≠ []) : mnF ((freeS n s).map (valS n E s)) = twS n E s := by
  have hl : (freeS n s).map (valS n E s) ≠ [] := fun e => hne (List.map_eq_nil_iff.1 e)
  obtain ⟨h1, h2, h3⟩ := foldMn ((freeS n s).map (valS n E s)) 16
  obtain ⟨x, hx, he⟩ := minO_some hl
  have h4 := twS_eq n E s
  have h5 : ∀ y ∈ (freeS n s).map (valS n E s), y ≤ 16 := fun y hy => by
    obtain ⟨v, hv, rfl⟩ := List.mem_map.1 hy
    have h6 := behS_lt (E := E) (s := s) (mem_freeS.1 hv).1
    have h7 := twS_le n E _ (s ||| 2 ^ v) rfl
    unfold valS
    omega
  have h8 : (mnF ((freeS n s).map (valS n E s)) : Int) = (x : Int) := by
    unfold mnF
    have h9 := h2 x hx
    have h10 := h5 x hx
    rcases h3 with h3 | ⟨y, hy, h3⟩
    · omega
    · have := minO_le y hy
      omega
  omega
theorem freeS_list {n s M t : Nat} (hn : n ≤ 16) (hs : s < 65536) (hM : M = 2 ^ n - 1) (ht : t = sub M s) : bitsOf t = freeS n s := by
  have hp : 2 ^ n ≤ 2 ^ 16 := Nat.pow_le_pow_right (by decide) hn
  have hM16 : M < 65536 := by omega
  have ht16 : t < 65536 := by rw [ht]; exact sub_lt16 _ _ hM16
  refine rising_ext _ _ (bitsOf_rising _) (List.Pairwise.filter _ List.pairwise_lt_range) fun x => ?_
  rw [mem_left ht16, ht, testBit_sub _ _ (by omega) (by omega), hM, Nat.testBit_two_pow_sub_one, mem_freeS]
  simp

set_option maxRecDepth 100000 in
set_option maxHeartbeats 8000000 in
theorem widthsAfter_any (w1 : World) (n : Nat) (E : Nat → Nat → Bool) (xp : Option Addr) (xc xb mb : Nat) (hE : ∀ x y, E x y = true → y < n) (hNE : NE w1 (.slice xp n xc) n E) (hT1 : Tab w1) :
    ∀ (r s : Nat), (freeS n s).length = r → s < 2 ^ n → ∀ (w : World) (c : Nat) (D : DataW Unit), WthI w1 w n E xp xc xb mb c D →
      Calls Tryd.prog 91 #[.pointer (some ⟨xb, 0, none⟩), .int .u32 (s : Int)] w fun e w' => e = .returned (.int .i64 (twS n E s : Int)) ∧ WthP w1 w w' n E xp xc xb mb D s := by
  have n16 := hNE.le
  have HNE := Lib.hid hNE
  have HT1 := Lib.hid hT1
  have HE := Lib.hid hE
  clear hNE hT1 hE
  have hp2 : 2 ^ n ≤ 2 ^ 16 := Nat.pow_le_pow_right (by decide) n16
  have hpp := Nat.two_pow_pos n
  obtain ⟨M, hM⟩ : ∃ M, M = 2 ^ n - 1 := ⟨_, rfl⟩
  have HM := Lib.hid hM
  have hM16 : M < 65536 := by omega
  have HM1 : Hid (M + 1 = 2 ^ n) := Lib.hid (by omega)
  have ALL : Hid (∀ (wz : World), Calls Tryd.prog 56 #[.slice xp n xc] wz fun e w' => e = .returned (.int .u32 (M : Int)) ∧ wz = w') := Lib.hid fun wz => all_any' xp n xc M (by omega) HM.out wz
  clear hp2 hpp hM
  intro r
  induction r with
  | zero =>
    intro s hr hs w c D hI
    have hfr := List.length_eq_zero_iff.1 hr
    have hsM : s = M := by
      have h1 := HM1.out
      refine Nat.eq_of_testBit_eq fun j => ?_
      rw [HM.out, Nat.testBit_two_pow_sub_one]
      by_cases hj : j < n
      · have h2 : j ∉ freeS n s := by rw [hfr]; simp
        rw [mem_freeS] at h2
        cases h3 : s.testBit j
        · exact absurd ⟨hj, h3⟩ h2
        · simp [hj]
      · rw [Nat.testBit_lt_two_pow (Nat.lt_of_lt_of_le hs (Nat.pow_le_pow_right (by decide) (by omega)))]
        simp [hj]
    have HTW : Hid (twS n E s = 0) := Lib.hid (by unfold twS; rw [hr]; rfl)
    subst hsM
    have HI := Lib.hid hI
    have c0 := hI.c0
    clear hI hfr hr hs
    go_enter Tryd.func91, Tryd.ntmps91
    go_wp2_with (go_at_call 56; refine (ALL.out _).mono ?_; rintro e w2 ⟨rfl, rfl⟩)
    go_ret
    rw [HTW.out]
    exact ⟨rfl, ⟨c, D, HI.out, fun t _ h => .inl h⟩, grown_of_below (Below.refl _ _) _⟩
  | succ r ih =>
    intro s hr hs w c D hI
    have IH := Lib.hid ih
    have hs16 : s < 65536 := by have := HM1.out; omega
    have hne : freeS n s ≠ [] := fun e => by rw [e] at hr; simp at hr
    have hsM : ((s : Int) == (M : Int)) = false := by
      refine beq_eq_false_iff_ne.2 fun e => hne ?_
      have e2 : s = M := by omega
      refine List.eq_nil_iff_forall_not_mem.2 fun x hx => ?_
      obtain ⟨h1, h2⟩ := mem_freeS.1 hx
      rw [e2, HM.out, Nat.testBit_two_pow_sub_one] at h2
      simp [h1] at h2
    have HNF := Lib.hid hne
    have HSN : Hid (∀ i, s.testBit i = true → i < n) := Lib.hid fun i hi => Nat.lt_of_not_le fun hge => by
      rw [Nat.testBit_lt_two_pow (Nat.lt_of_lt_of_le hs (Nat.pow_le_pow_right (by decide) hge))] at hi; cases hi
    have hkey := key_u32 hs16
    have HI := Lib.hid hI
    have c0 := hI.c0
    have c1 := hI.c1
    have hown := hI.map
    have HR := Lib.hid hr
    have HS2 := Lib.hid hs
    obtain ⟨tw, htw⟩ : ∃ tw, tw = twS n E s := ⟨_, rfl⟩
    have HTW := Lib.hid htw
    rw [← htw]
    clear hI hr hs hne ih htw
    by_cases hh : Maps.has D (kyW s) = true
    · have hv := HI.out.val s hs16 hh
      rw [← HTW.out] at hv
      have HV := Lib.hid hv
      clear hv
      go_enter Tryd.func91, Tryd.ntmps91
      go_wp2_with (first
        | (at_lookup; refine wpList_lookup_own_ok_int _ rfl _ _ 132 rfl 71 3 .i64 law_u32 Tryd.underlying132 Tryd.underlying3 (zero_int _) mb c D rfl hown _ _ rfl hkey ?_; intro cc hat hwc; rw [HV.out] at hat; simp only [DataW.lit.injEq, Lit.int.injEq, true_and] at hat; subst hat)
        | (go_at_call 56; refine (ALL.out _).mono ?_; rintro e w2 ⟨rfl, rfl⟩))
      go_ret
      exact ⟨rfl, ⟨c, D, HI.out, fun t _ h => .inl h⟩, grown_of_below (Below.refl _ _) _⟩
    · have hhf : Maps.has D (kyW s) = false := by simpa using hh
      have HHF := Lib.hid hhf
      clear hh
      obtain ⟨t, ht⟩ : ∃ t, t = sub M s := ⟨_, rfl⟩
      have hand : bits BinOp.andNot IntKind.u32 (M : Int) (s : Int) = (t : Int) := by rw [ht]; exact u32_andNot_nat M s (by omega) (by omega)
      have ht16 : t < 65536 := by rw [ht]; exact sub_lt16 _ _ hM16
      have hbt : bitsOf t = freeS n s := freeS_list n16 hs16 HM.out ht
      obtain ⟨L, hL⟩ : ∃ L, L = freeS n s := ⟨_, rfl⟩
      have HL := Lib.hid hL
      have hll : L.length ≤ 32 := by rw [hL, ← hbt]; exact bitsOf_length t
      have LIST : Hid (∀ (wz : World), Tab wz → Calls Tryd.prog 127 #[.int .u32 (t : Int)] wz fun e w' => ∃ v, e = .returned v ∧ w'.ownsRow wz.heap.size 3 1 v L.length ((natInts L).map (Value.int .i64)) ∧ Below wz.heap.size wz w') := Lib.hid (fun wz hT => by
        have := list_any _ t rfl (by omega) wz hT
        rw [hbt, ← hL] at this
        exact this)
      have HTw := Lib.hid (HT1.out.keep HI.out.bel)
      have hmbl : mb < w.heap.size := hown.lt
      clear ht hbt hL
      go_enter Tryd.func91, Tryd.ntmps91
      go_wp2_with (first
        | (at_lookup; refine wpList_lookup_own_ok_int _ rfl _ _ 132 rfl 71 3 .i64 law_u32 Tryd.underlying132 Tryd.underlying3 (zero_int _) mb c D rfl hown _ _ rfl hkey ?_; intro cc hat hwc; clear hat hwc)
        | (go_at_call 127; refine (LIST.out _ HTw.out).mono ?_; rintro e w3 ⟨lv, rfl, ho3, hb3⟩; obtain ⟨lp, lc, rfl⟩ := owns_shapeWd ho3; have HO3 := Lib.hid ho3; have HB3 := Lib.hid hb3; clear ho3 hb3)
        | (go_at_call 56; refine (ALL.out _).mono ?_; rintro e w2 ⟨rfl, rfl⟩))
      have HI3 := Lib.hid (HI.out.next HB3.out)
      have sz3 := HB3.out.size
      clear c0 c1 hown
      go_loopw [7, 37] (fun bv kv wr => ∃ (k : Nat) (c' : Nat) (D' : DataW Unit), k ≤ L.length ∧ kv = .int .i64 (k : Int) ∧ bv = .int .i64 ((mnF ((L.take k).map (valS n E s)) : Nat) : Int) ∧ Hid (WthI w1 wr n E xp xc xb mb c' D') ∧ Hid (w3.grownBy wr (some mb)) ∧ Hid (∀ t, t < 65536 → Maps.has D' (kyW t) = true → Maps.has D (kyW t) = true ∨ s < t)) (fun _ kv _ => L.length - (intOf kv).toNat)
      case atStart => exact ⟨0, c, D, Nat.zero_le _, rfl, rfl, HI3, Lib.hid (grown_of_below (Below.refl _ _) _), Lib.hid fun t _ h => .inl h⟩
      case round =>
        clear HI3
        obtain ⟨k, c', D', hk, rfl, rfl, HIr, HGr, HDr⟩ := hrel
        by_cases hlt : k < L.length
        · obtain ⟨v, hv⟩ : ∃ v, v = L[k] := ⟨_, rfl⟩
          have hvf : v ∈ freeS n s := by rw [hv, ← HL.out]; exact List.getElem_mem hlt
          obtain ⟨hvn, hvs⟩ := mem_freeS.1 hvf
          have hfp := freeS_put hvf
          have hpl := lt_put hvs
          have hput : s ||| 2 ^ v < 2 ^ n := Nat.or_lt_two_pow HS2.out (Nat.pow_lt_pow_right (by decide) hvn)
          have WITH : Hid (∀ (wz : World) (c : Nat) (D : DataW Unit), WthI w1 wz n E xp xc xb mb c D → Calls Tryd.prog 136 #[.pointer (some ⟨xb, 0, none⟩), .int .u32 (s : Int), .int .i64 (v : Int)] wz fun e w' => e = .returned (.int .i64 (valS n E s v : Int)) ∧ WthP w1 wz w' n E xp xc xb mb D (s ||| 2 ^ v)) := Lib.hid fun wz c D h => widthsWith_any w1 n E xp xc xb mb s v HE.out HNE.out HT1.out HS2.out HSN.out hvn (IH.out (s ||| 2 ^ v) (by have := HR.out; omega) hput) wz c D h
          obtain ⟨lb, cap, hlp⟩ : ∃ b c, lp = some ⟨b, 0, none⟩ ∧ c = 0 := by
            rcases HO3.out.2 with ⟨_, h0⟩ | ⟨b, c, _, h1, _⟩
            · omega
            · simp only [Value.slice.injEq] at h1
              exact ⟨b, 0, h1.1, rfl⟩
          obtain ⟨rfl, _⟩ := hlp
          have hlb : w.heap.size ≤ lb := (HO3.out.lt lb rfl).1
          have hlx : lb < w3.heap.size := (HO3.out.lt lb rfl).2
          have hcl : wr.cell? ⟨lb, k, none⟩ = some (.int .i64 (v : Int)) := by
            have h1 : w3.cell? ⟨lb, k, none⟩ = some (.int .i64 (v : Int)) := by
              rw [HO3.out.cellAt k (by omega), hv]
              simp [natInts, hlt]
            exact HGr.out.cell h1 (fun e => by have e2 : lb = mb := (by simpa using e); omega)
          obtain ⟨m1, hm1⟩ : ∃ m1, m1 = mnF ((L.take k).map (valS n E s)) := ⟨_, rfl⟩
          obtain ⟨vl, hvl⟩ : ∃ vl, vl = valS n E s v := ⟨_, rfl⟩
          obtain ⟨m2, hm2⟩ : ∃ m2, m2 = mnF ((L.take (k + 1)).map (valS n E s)) := ⟨_, rfl⟩
          have hm3 : m2 = min m1 vl := by rw [hm2, take_snoc L k hlt, List.map_append, hm1, hvl, hv]; exact mnF_snoc _ _
          rw [← hm1]
          rw [← hvl] at WITH
          have HM2 := Lib.hid hm2
          have hki : (k : Int) < (L.length : Int) := by omega
          have hk0 : (0 : Int) ≤ (k : Int) := by omega
          clear hv hvf hm1 hvl hm2 hfp hput hvs
          by_cases hmin : vl < m1
          · obtain rfl : m2 = vl := by omega
            have hmi : (m2 : Int) < (m1 : Int) := by omega
            have hmi2 : ¬ (m1 : Int) < (m2 : Int) := by omega
            have hmi3 : ¬ (m1 : Int) ≤ (m2 : Int) := by omega
            clear hmin hm3
            go_wp2_with (go_at_call 136; refine (WITH.out _ _ _ HIr.out).mono ?_; rintro e w5 ⟨rfl, ⟨⟨c5, D5, hI5, hd5⟩, hg5⟩⟩; have HI5 := Lib.hid hI5; have HD5 := Lib.hid hd5; have HG5 := Lib.hid (grown_trans HGr.out hg5); clear hI5 hd5 hg5)
            go_roundw
            case rel => exact ⟨k + 1, c5, D5, by omega, by go_num, by rw [← HM2.out], HI5, HG5, Lib.hid fun t h1 h2 => by
              rcases HD5.out t h1 h2 with h | h
              · exact HDr.out t h1 h
              · exact .inr (Nat.lt_of_lt_of_le hpl h)⟩
            case measure => simp [intOf]; omega
          · obtain rfl : m2 = m1 := by omega
            have hmi : ¬ (vl : Int) < (m2 : Int) := by omega
            have hmi2 : (m2 : Int) ≤ (vl : Int) := by omega
            clear hmin hm3
            go_wp2_with (go_at_call 136; refine (WITH.out _ _ _ HIr.out).mono ?_; rintro e w5 ⟨rfl, ⟨⟨c5, D5, hI5, hd5⟩, hg5⟩⟩; have HI5 := Lib.hid hI5; have HD5 := Lib.hid hd5; have HG5 := Lib.hid (grown_trans HGr.out hg5); clear hI5 hd5 hg5)
            go_roundw
            case rel => exact ⟨k + 1, c5, D5, by omega, by go_num, by rw [← HM2.out], HI5, HG5, Lib.hid fun t h1 h2 => by
              rcases HD5.out t h1 h2 with h | h
              · exact HDr.out t h1 h
              · exact .inr (Nat.lt_of_lt_of_le hpl h)⟩
            case measure => simp [intOf]; omega
        · obtain rfl : k = L.length := by omega
          have HMN : Hid (mnF ((L.take L.length).map (valS n E s)) = tw) := Lib.hid (by rw [List.take_length, HTW.out, HL.out]; exact mnF_tw n16 HNF.out)
          rw [HMN.out]
          have hI := HIr.out
          have c1 := hI.c1
          have hown := hI.map
          have hroom := hI.room
          have htw16 : tw < 65536 := by
            have := twS_le n E _ s rfl
            rw [← HTW.out] at this
            omega
          have hnh : Maps.has D' (kyW s) = false := by
            cases h : Maps.has D' (kyW s)
            · rfl
            · rcases HDr.out s hs16 h with h1 | h1
              · rw [HHF.out] at h1; cases h1
              · omega
          have HNH := Lib.hid hnh
          have hval : plainElem (H := Unit) Tryd.prog 3 (.int .i64 (tw : Int)) = some (.lit (.int .i64 (tw : Int)), []) := plainElem_int Tryd.underlying3 (wf_i64 htw16)
          clear hI hnh
          go_wp2_with (at_mapUpdate; refine wpList_mapUpdate_own _ rfl _ _ _ 132 rfl 71 3 law_u32 Tryd.underlying132 _ mb c' D' rfl hown hroom _ _ (kyW s) rfl rfl hkey _ [] hval ?_; intro w6 hown6 hg6)
          go_ret
          refine ⟨rfl, ⟨c' + 1, _, HIr.out.put hs16 HNH.out (by rw [HTW.out]) hown6 hg6, fun t h1 h2 => ?_⟩, grown_trans (grown_of_below HB3.out _) (grown_trans HGr.out hg6)⟩
          by_cases e : t = s
          · exact .inr (by omega)
          · rw [has_put_other (kyW_ne e)] at h2
            rcases HDr.out t h1 h2 with h | h
            · exact .inl h
            · exact .inr (by omega)

end Go.Proofs.YtiooindlpinjhaaDoor

/- Walk: the program's test of a small graph. -/
namespace Go.Proofs.YtiooindlpinjhaaDoor
open Go.RowKit

set_option maxRecDepth 100000 in
set_option maxHeartbeats 1000000 in
theorem isSmall_any (v : Value) (g : List (List Int)) (w : World) (hg : Gr w v g) :
    Calls Tryd.prog 88 #[v] w fun e w' => e = .returned (.bool (dec (GOk g ∧ g.length ≤ 8))) ∧ Below w.heap.size w w' := by
  have hg0 := hg
  obtain ⟨u, rfl, hr⟩ := hg
  obtain ⟨p, c, rfl, _, _, _⟩ := hr.shape
  have hbA := Lib.hid (below_alloc w (.cells #[.slice p g.length c] 28))
  have HG := Lib.hid (hg0.below hbA.out)
  have BX := Lib.hid (Box.new w (.slice p g.length c) 28)
  clear hr hg0
  by_cases hok : GOk g
  · have hd := dec_true hok
    have Hok := Lib.hid hok
    clear hok
    have H : dec (GOk g ∧ g.length ≤ 8) = decide (g.length ≤ 8) := by
      by_cases h : g.length ≤ 8
      · rw [dec_true (show GOk g ∧ g.length ≤ 8 from ⟨Hok.out, h⟩)]; simp [h]
      · rw [dec_false (show ¬ (GOk g ∧ g.length ≤ 8) from fun k => h k.2)]; simp [h]
    have HH := Lib.hid H
    clear H
    go_enter Tryd.func88, Tryd.ntmps88
    go_wp2_with (go_at_call 53; refine (implGraphOk_any _ g _ HG.out).mono ?_; rintro e w2 ⟨he, hb2⟩; rw [hd] at he; subst he; have hbx := (BX.out.keep hb2).cell)
    go_ret
    exact ⟨by rw [HH.out]; exact ret_bool (by simp; omega), hbA.out.trans (hb2.mono hbA.out.size)⟩
  · have hd := dec_false hok
    have HH := Lib.hid (dec_false (show ¬ (GOk g ∧ g.length ≤ 8) from fun k => hok k.1))
    clear hok
    go_enter Tryd.func88, Tryd.ntmps88
    go_wp2_with (go_at_call 53; refine (implGraphOk_any _ g _ HG.out).mono ?_; rintro e w2 ⟨he, hb2⟩; rw [hd] at he; subst he)
    go_ret
    exact ⟨by rw [HH.out]; rfl, hbA.out.trans (hb2.mono hbA.out.size)⟩

end Go.Proofs.YtiooindlpinjhaaDoor
