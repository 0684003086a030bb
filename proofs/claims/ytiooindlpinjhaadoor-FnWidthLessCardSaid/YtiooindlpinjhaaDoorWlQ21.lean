/- Walk: the program's least width after a set (widths.after), by recursion on who is left. -/
import Derived.Test.YtiooindlpinjhaaDoorWlQ20
import Derived.Test.YtiooindlpinjhaaDoorWlQ8
namespace Go.Proofs.YtiooindlpinjhaaDoor
open Go.RowKit Go.Maps

/-- The least of sixteen and all. -/
def mnF (l : List Nat) : Nat := l.foldl min 16
theorem mnF_snoc (l : List Nat) (x : Nat) : mnF (l ++ [x]) = min (mnF l) x := by simp [mnF]
theorem foldMn : ∀ (l : List Nat) (a : Nat), l.foldl min a ≤ a ∧ (∀ x ∈ l, l.foldl min a ≤ x) ∧ (l.foldl min a = a ∨ ∃ x ∈ l, l.foldl min a = x)
  | [], a => ⟨Nat.le_refl _, fun _ h => absurd h (by simp), .inl rfl⟩
  | y :: l, a => by
    obtain ⟨h1, h2, h3⟩ := foldMn l (min a y)
    have e : (y :: l).foldl min a = l.foldl min (min a y) := rfl
    rw [e]
    refine ⟨by omega, fun x hx => ?_, ?_⟩
    · rcases List.mem_cons.1 hx with rfl | hx
      · omega
      · exact h2 x hx
    · rcases h3 with h3 | ⟨x, hx, h3⟩
      · by_cases e : a ≤ y
        · exact .inl (by omega)
        · exact .inr ⟨y, List.mem_cons_self .., by omega⟩
      · exact .inr ⟨x, List.mem_cons_of_mem _ hx, h3⟩
theorem mnF_le16 (l : List Nat) : mnF l ≤ 16 := (foldMn l 16).1
theorem mnF_tw {n : Nat} (hn : n ≤ 16) {E : Nat → Nat → Bool} {s : Nat} (hne : freeS n s ≠ []) : mnF ((freeS n s).map (valS n E s)) = twS n E s := by
  have hl : (freeS n s).map (valS n E s) ≠ [] := fun e => hne (List.map_eq_nil_iff.1 e)
  obtain ⟨h1, h2, h3⟩ := foldMn ((freeS n s).map (valS n E s)) 16
  obtain ⟨x, hx, he⟩ := minO_some hl
  have h4 := twS_eq n E s
  have h5 : ∀ y ∈ (freeS n s).map (valS n E s), y ≤ 16 := fun y hy => by
    obtain ⟨v, hv, rfl⟩ := List.mem_map.1 hy
    have h6 := behS_lt (E := E) (s := s) (mem_freeS.1 hv).1
    have h7 := twS_le n E _ (s ||| 2 ^ v) rfl
    unfold valS
    omega
  have h8 : (mnF ((freeS n s).map (valS n E s)) : Int) = (x : Int) := by
    unfold mnF
    have h9 := h2 x hx
    have h10 := h5 x hx
    rcases h3 with h3 | ⟨y, hy, h3⟩
    · omega
    · have := minO_le y hy
      omega
  omega
theorem freeS_list {n s M t : Nat} (hn : n ≤ 16) (hs : s < 65536) (hM : M = 2 ^ n - 1) (ht : t = sub M s) : bitsOf t = freeS n s := by
  have hp : 2 ^ n ≤ 2 ^ 16 := Nat.pow_le_pow_right (by decide) hn
  have hM16 : M < 65536 := by omega
  have ht16 : t < 65536 := by rw [ht]; exact sub_lt16 _ _ hM16
  refine rising_ext _ _ (bitsOf_rising _) (List.Pairwise.filter _ List.pairwise_lt_range) fun x => ?_
  rw [mem_left ht16, ht, testBit_sub _ _ (by omega) (by omega), hM, Nat.testBit_two_pow_sub_one, mem_freeS]
  simp

set_option maxRecDepth 100000 in
set_option maxHeartbeats 8000000 in
theorem widthsAfter_any (w1 : World) (n : Nat) (E : Nat → Nat → Bool) (xp : Option Addr) (xc xb mb : Nat) (hE : ∀ x y, E x y = true → y < n) (hNE : NE w1 (.slice xp n xc) n E) (hT1 : Tab w1) :
    ∀ (r s : Nat), (freeS n s).length = r → s < 2 ^ n → ∀ (w : World) (c : Nat) (D : DataW Unit), WthI w1 w n E xp xc xb mb c D →
      Calls Tryd.prog 91 #[.pointer (some ⟨xb, 0, none⟩), .int .u32 (s : Int)] w fun e w' => e = .returned (.int .i64 (twS n E s : Int)) ∧ WthP w1 w w' n E xp xc xb mb D s := by
  have n16 := hNE.le
  have HNE := Lib.hid hNE
  have HT1 := Lib.hid hT1
  have HE := Lib.hid hE
  clear hNE hT1 hE
  have hp2 : 2 ^ n ≤ 2 ^ 16 := Nat.pow_le_pow_right (by decide) n16
  have hpp := Nat.two_pow_pos n
  obtain ⟨M, hM⟩ : ∃ M, M = 2 ^ n - 1 := ⟨_, rfl⟩
  have HM := Lib.hid hM
  have hM16 : M < 65536 := by omega
  have HM1 : Hid (M + 1 = 2 ^ n) := Lib.hid (by omega)
  have ALL : Hid (∀ (wz : World), Calls Tryd.prog 56 #[.slice xp n xc] wz fun e w' => e = .returned (.int .u32 (M : Int)) ∧ wz = w') := Lib.hid fun wz => all_any' xp n xc M (by omega) HM.out wz
  clear hp2 hpp hM
  intro r
  induction r with
  | zero =>
    intro s hr hs w c D hI
    have hfr := List.length_eq_zero_iff.1 hr
    have hsM : s = M := by
      have h1 := HM1.out
      refine Nat.eq_of_testBit_eq fun j => ?_
      rw [HM.out, Nat.testBit_two_pow_sub_one]
      by_cases hj : j < n
      · have h2 : j ∉ freeS n s := by rw [hfr]; simp
        rw [mem_freeS] at h2
        cases h3 : s.testBit j
        · exact absurd ⟨hj, h3⟩ h2
        · simp [hj]
      · rw [Nat.testBit_lt_two_pow (Nat.lt_of_lt_of_le hs (Nat.pow_le_pow_right (by decide) (by omega)))]
        simp [hj]
    have HTW : Hid (twS n E s = 0) := Lib.hid (by unfold twS; rw [hr]; rfl)
    subst hsM
    have HI := Lib.hid hI
    have c0 := hI.c0
    clear hI hfr hr hs
    go_enter Tryd.func91, Tryd.ntmps91
    go_wp2_with (go_at_call 56; refine (ALL.out _).mono ?_; rintro e w2 ⟨rfl, rfl⟩)
    go_ret
    rw [HTW.out]
    exact ⟨rfl, ⟨c, D, HI.out, fun t _ h => .inl h⟩, grown_of_below (Below.refl _ _) _⟩
  | succ r ih =>
    intro s hr hs w c D hI
    have IH := Lib.hid ih
    have hs16 : s < 65536 := by have := HM1.out; omega
    have hne : freeS n s ≠ [] := fun e => by rw [e] at hr; simp at hr
    have hsM : ((s : Int) == (M : Int)) = false := by
      refine beq_eq_false_iff_ne.2 fun e => hne ?_
      have e2 : s = M := by omega
      refine List.eq_nil_iff_forall_not_mem.2 fun x hx => ?_
      obtain ⟨h1, h2⟩ := mem_freeS.1 hx
      rw [e2, HM.out, Nat.testBit_two_pow_sub_one] at h2
      simp [h1] at h2
    have HNF := Lib.hid hne
    have HSN : Hid (∀ i, s.testBit i = true → i < n) := Lib.hid fun i hi => Nat.lt_of_not_le fun hge => by
      rw [Nat.testBit_lt_two_pow (Nat.lt_of_lt_of_le hs (Nat.pow_le_pow_right (by decide) hge))] at hi; cases hi
    have hkey := key_u32 hs16
    have HI := Lib.hid hI
    have c0 := hI.c0
    have c1 := hI.c1
    have hown := hI.map
    have HR := Lib.hid hr
    have HS2 := Lib.hid hs
    obtain ⟨tw, htw⟩ : ∃ tw, tw = twS n E s := ⟨_, rfl⟩
    have HTW := Lib.hid htw
    rw [← htw]
    clear hI hr hs hne ih htw
    by_cases hh : Maps.has D (kyW s) = true
    · have hv := HI.out.val s hs16 hh
      rw [← HTW.out] at hv
      have HV := Lib.hid hv
      clear hv
      go_enter Tryd.func91, Tryd.ntmps91
      go_wp2_with (first
        | (at_lookup; refine wpList_lookup_own_ok_int _ rfl _ _ 132 rfl 71 3 .i64 law_u32 Tryd.underlying132 Tryd.underlying3 (zero_int _) mb c D rfl hown _ _ rfl hkey ?_; intro cc hat hwc; rw [HV.out] at hat; simp only [DataW.lit.injEq, Lit.int.injEq, true_and] at hat; subst hat)
        | (go_at_call 56; refine (ALL.out _).mono ?_; rintro e w2 ⟨rfl, rfl⟩))
      go_ret
      exact ⟨rfl, ⟨c, D, HI.out, fun t _ h => .inl h⟩, grown_of_below (Below.refl _ _) _⟩
    · have hhf : Maps.has D (kyW s) = false := by simpa using hh
      have HHF := Lib.hid hhf
      clear hh
      obtain ⟨t, ht⟩ : ∃ t, t = sub M s := ⟨_, rfl⟩
      have hand : bits BinOp.andNot IntKind.u32 (M : Int) (s : Int) = (t : Int) := by rw [ht]; exact u32_andNot_nat M s (by omega) (by omega)
      have ht16 : t < 65536 := by rw [ht]; exact sub_lt16 _ _ hM16
      have hbt : bitsOf t = freeS n s := freeS_list n16 hs16 HM.out ht
      obtain ⟨L, hL⟩ : ∃ L, L = freeS n s := ⟨_, rfl⟩
      have HL := Lib.hid hL
      have hll : L.length ≤ 32 := by rw [hL, ← hbt]; exact bitsOf_length t
      have LIST : Hid (∀ (wz : World), Tab wz → Calls Tryd.prog 127 #[.int .u32 (t : Int)] wz fun e w' => ∃ v, e = .returned v ∧ w'.ownsRow wz.heap.size 3 1 v L.length ((natInts L).map (Value.int .i64)) ∧ Below wz.heap.size wz w') := Lib.hid (fun wz hT => by
        have := list_any _ t rfl (by omega) wz hT
        rw [hbt, ← hL] at this
        exact this)
      have HTw := Lib.hid (HT1.out.keep HI.out.bel)
      have hmbl : mb < w.heap.size := hown.lt
      clear ht hbt hL
      go_enter Tryd.func91, Tryd.ntmps91
      go_wp2_with (first
        | (at_lookup; refine wpList_lookup_own_ok_int _ rfl _ _ 132 rfl 71 3 .i64 law_u32 Tryd.underlying132 Tryd.underlying3 (zero_int _) mb c D rfl hown _ _ rfl hkey ?_; intro cc hat hwc; clear hat hwc)
        | (go_at_call 127; refine (LIST.out _ HTw.out).mono ?_; rintro e w3 ⟨lv, rfl, ho3, hb3⟩; obtain ⟨lp, lc, rfl⟩ := owns_shapeWd ho3; have HO3 := Lib.hid ho3; have HB3 := Lib.hid hb3; clear ho3 hb3)
        | (go_at_call 56; refine (ALL.out _).mono ?_; rintro e w2 ⟨rfl, rfl⟩))
      have HI3 := Lib.hid (HI.out.next HB3.out)
      have sz3 := HB3.out.size
      clear c0 c1 hown
      go_loopw [7, 37] (fun bv kv wr => ∃ (k : Nat) (c' : Nat) (D' : DataW Unit), k ≤ L.length ∧ kv = .int .i64 (k : Int) ∧ bv = .int .i64 ((mnF ((L.take k).map (valS n E s)) : Nat) : Int) ∧ Hid (WthI w1 wr n E xp xc xb mb c' D') ∧ Hid (w3.grownBy wr (some mb)) ∧ Hid (∀ t, t < 65536 → Maps.has D' (kyW t) = true → Maps.has D (kyW t) = true ∨ s < t)) (fun _ kv _ => L.length - (intOf kv).toNat)
      case atStart => exact ⟨0, c, D, Nat.zero_le _, rfl, rfl, HI3, Lib.hid (grown_of_below (Below.refl _ _) _), Lib.hid fun t _ h => .inl h⟩
      case round =>
        clear HI3
        obtain ⟨k, c', D', hk, rfl, rfl, HIr, HGr, HDr⟩ := hrel
        by_cases hlt : k < L.length
        · obtain ⟨v, hv⟩ : ∃ v, v = L[k] := ⟨_, rfl⟩
          have hvf : v ∈ freeS n s := by rw [hv, ← HL.out]; exact List.getElem_mem hlt
          obtain ⟨hvn, hvs⟩ := mem_freeS.1 hvf
          have hfp := freeS_put hvf
          have hpl := lt_put hvs
          have hput : s ||| 2 ^ v < 2 ^ n := Nat.or_lt_two_pow HS2.out (Nat.pow_lt_pow_right (by decide) hvn)
          have WITH : Hid (∀ (wz : World) (c : Nat) (D : DataW Unit), WthI w1 wz n E xp xc xb mb c D → Calls Tryd.prog 136 #[.pointer (some ⟨xb, 0, none⟩), .int .u32 (s : Int), .int .i64 (v : Int)] wz fun e w' => e = .returned (.int .i64 (valS n E s v : Int)) ∧ WthP w1 wz w' n E xp xc xb mb D (s ||| 2 ^ v)) := Lib.hid fun wz c D h => widthsWith_any w1 n E xp xc xb mb s v HE.out HNE.out HT1.out HS2.out HSN.out hvn (IH.out (s ||| 2 ^ v) (by have := HR.out; omega) hput) wz c D h
          obtain ⟨lb, cap, hlp⟩ : ∃ b c, lp = some ⟨b, 0, none⟩ ∧ c = 0 := by
            rcases HO3.out.2 with ⟨_, h0⟩ | ⟨b, c, _, h1, _⟩
            · omega
            · simp only [Value.slice.injEq] at h1
              exact ⟨b, 0, h1.1, rfl⟩
          obtain ⟨rfl, _⟩ := hlp
          have hlb : w.heap.size ≤ lb := (HO3.out.lt lb rfl).1
          have hlx : lb < w3.heap.size := (HO3.out.lt lb rfl).2
          have hcl : wr.cell? ⟨lb, k, none⟩ = some (.int .i64 (v : Int)) := by
            have h1 : w3.cell? ⟨lb, k, none⟩ = some (.int .i64 (v : Int)) := by
              rw [HO3.out.cellAt k (by omega), hv]
              simp [natInts, hlt]
            exact HGr.out.cell h1 (fun e => by have e2 : lb = mb := (by simpa using e); omega)
          obtain ⟨m1, hm1⟩ : ∃ m1, m1 = mnF ((L.take k).map (valS n E s)) := ⟨_, rfl⟩
          obtain ⟨vl, hvl⟩ : ∃ vl, vl = valS n E s v := ⟨_, rfl⟩
          obtain ⟨m2, hm2⟩ : ∃ m2, m2 = mnF ((L.take (k + 1)).map (valS n E s)) := ⟨_, rfl⟩
          have hm3 : m2 = min m1 vl := by rw [hm2, take_snoc L k hlt, List.map_append, hm1, hvl, hv]; exact mnF_snoc _ _
          rw [← hm1]
          rw [← hvl] at WITH
          have HM2 := Lib.hid hm2
          have hki : (k : Int) < (L.length : Int) := by omega
          have hk0 : (0 : Int) ≤ (k : Int) := by omega
          clear hv hvf hm1 hvl hm2 hfp hput hvs
          by_cases hmin : vl < m1
          · obtain rfl : m2 = vl := by omega
            have hmi : (m2 : Int) < (m1 : Int) := by omega
            have hmi2 : ¬ (m1 : Int) < (m2 : Int) := by omega
            have hmi3 : ¬ (m1 : Int) ≤ (m2 : Int) := by omega
            clear hmin hm3
            go_wp2_with (go_at_call 136; refine (WITH.out _ _ _ HIr.out).mono ?_; rintro e w5 ⟨rfl, ⟨⟨c5, D5, hI5, hd5⟩, hg5⟩⟩; have HI5 := Lib.hid hI5; have HD5 := Lib.hid hd5; have HG5 := Lib.hid (grown_trans HGr.out hg5); clear hI5 hd5 hg5)
            go_roundw
            case rel => exact ⟨k + 1, c5, D5, by omega, by go_num, by rw [← HM2.out], HI5, HG5, Lib.hid fun t h1 h2 => by
              rcases HD5.out t h1 h2 with h | h
              · exact HDr.out t h1 h
              · exact .inr (Nat.lt_of_lt_of_le hpl h)⟩
            case measure => simp [intOf]; omega
          · obtain rfl : m2 = m1 := by omega
            have hmi : ¬ (vl : Int) < (m2 : Int) := by omega
            have hmi2 : (m2 : Int) ≤ (vl : Int) := by omega
            clear hmin hm3
            go_wp2_with (go_at_call 136; refine (WITH.out _ _ _ HIr.out).mono ?_; rintro e w5 ⟨rfl, ⟨⟨c5, D5, hI5, hd5⟩, hg5⟩⟩; have HI5 := Lib.hid hI5; have HD5 := Lib.hid hd5; have HG5 := Lib.hid (grown_trans HGr.out hg5); clear hI5 hd5 hg5)
            go_roundw
            case rel => exact ⟨k + 1, c5, D5, by omega, by go_num, by rw [← HM2.out], HI5, HG5, Lib.hid fun t h1 h2 => by
              rcases HD5.out t h1 h2 with h | h
              · exact HDr.out t h1 h
              · exact .inr (Nat.lt_of_lt_of_le hpl h)⟩
            case measure => simp [intOf]; omega
        · obtain rfl : k = L.length := by omega
          have HMN : Hid (mnF ((L.take L.length).map (valS n E s)) = tw) := Lib.hid (by rw [List.take_length, HTW.out, HL.out]; exact mnF_tw n16 HNF.out)
          rw [HMN.out]
          have hI := HIr.out
          have c1 := hI.c1
          have hown := hI.map
          have hroom := hI.room
          have htw16 : tw < 65536 := by
            have := twS_le n E _ s rfl
            rw [← HTW.out] at this
            omega
          have hnh : Maps.has D' (kyW s) = false := by
            cases h : Maps.has D' (kyW s)
            · rfl
            · rcases HDr.out s hs16 h with h1 | h1
              · rw [HHF.out] at h1; cases h1
              · omega
          have HNH := Lib.hid hnh
          have hval : plainElem (H := Unit) Tryd.prog 3 (.int .i64 (tw : Int)) = some (.lit (.int .i64 (tw : Int)), []) := plainElem_int Tryd.underlying3 (wf_i64 htw16)
          clear hI hnh
          go_wp2_with (at_mapUpdate; refine wpList_mapUpdate_own _ rfl _ _ _ 132 rfl 71 3 law_u32 Tryd.underlying132 _ mb c' D' rfl hown hroom _ _ (kyW s) rfl rfl hkey _ [] hval ?_; intro w6 hown6 hg6)
          go_ret
          refine ⟨rfl, ⟨c' + 1, _, HIr.out.put hs16 HNH.out (by rw [HTW.out]) hown6 hg6, fun t h1 h2 => ?_⟩, grown_trans (grown_of_below HB3.out _) (grown_trans HGr.out hg6)⟩
          by_cases e : t = s
          · exact .inr (by omega)
          · rw [has_put_other (kyW_ne e)] at h2
            rcases HDr.out t h1 h2 with h | h
            · exact .inl h
            · exact .inr (by omega)

end Go.Proofs.YtiooindlpinjhaaDoor

/- Plain: each graph of six vertices at most in which no vertex has one or two neighbours, and some edge is, has a model of the full graph of four. -/
namespace Go.Proofs.YtiooindlpinjhaaDoor

/-- The bit of an edge. -/
def bitVd (u v : Nat) : Nat := if u < v then v * (v - 1) / 2 + u else u * (u - 1) / 2 + v
theorem bitVd_comm (u v : Nat) : bitVd u v = bitVd v u := by
  unfold bitVd
  by_cases h : u < v
  · rw [if_pos h, if_neg (by omega)]
  · by_cases h2 : v < u
    · rw [if_neg h, if_pos h2]
    · obtain rfl : u = v := by omega
      rfl
/-- The edges between two lists. -/
def joinVd (A B : List Nat) : Nat := A.foldl (fun m x => B.foldl (fun m y => m ||| 2 ^ bitVd x y) m) 0
theorem joinVd_in {c x : Nat} (B : List Nat) : ∀ m, c &&& B.foldl (fun m y => m ||| 2 ^ bitVd x y) m ≠ 0 → c &&& m ≠ 0 ∨ ∃ y ∈ B, c.testBit (bitVd x y) = true := by
  induction B with
  | nil => intro m h; exact .inl h
  | cons y B ih =>
    intro m h
    rcases ih _ h with h | ⟨z, hz, h⟩
    · by_cases e : c.testBit (bitVd x y) = true
      · exact .inr ⟨y, by simp, e⟩
      · refine .inl fun h0 => h (Nat.eq_of_testBit_eq fun i => ?_)
        have := congrArg (Nat.testBit · i) h0
        simp only [Nat.testBit_and, Nat.zero_testBit, Nat.testBit_or] at this ⊢
        by_cases ei : i = bitVd x y
        · subst ei
          have e' : c.testBit (bitVd x y) = false := by simpa using e
          rw [e']; rfl
        · rw [Nat.testBit_two_pow_of_ne (Ne.symm ei), Bool.or_false, this]
    · exact .inr ⟨z, by simp [hz], h⟩
theorem joinVd_out {c : Nat} {B : List Nat} (A : List Nat) : ∀ m, c &&& A.foldl (fun m x => B.foldl (fun m y => m ||| 2 ^ bitVd x y) m) m ≠ 0 → c &&& m ≠ 0 ∨ ∃ x ∈ A, ∃ y ∈ B, c.testBit (bitVd x y) = true := by
  induction A with
  | nil => intro m h; exact .inl h
  | cons x A ih =>
    intro m h
    rcases ih _ h with h | ⟨z, hz, h⟩
    · rcases joinVd_in B m h with h | ⟨y, hy, h⟩
      · exact .inl h
      · exact .inr ⟨x, by simp, y, hy, h⟩
    · exact .inr ⟨z, by simp [hz], h⟩
theorem joinVd_hit {c : Nat} {A B : List Nat} (h : c &&& joinVd A B ≠ 0) : ∃ x ∈ A, ∃ y ∈ B, c.testBit (bitVd x y) = true := by
  rcases joinVd_out A 0 h with h | h
  · rw [Nat.and_zero] at h; exact absurd rfl h
  · exact h

/-- What a set of a model needs: each vertex an edge to the rest. -/
def wholeVd (B : List Nat) : List Nat := if B.length ≤ 1 then [] else B.map fun x => joinVd [x] (B.filter (· != x))
def condsVd (M : List (List Nat)) : List Nat := M.flatMap wholeVd ++ (List.range 4).flatMap fun i => (List.range i).map fun j => joinVd (M.getD i []) (M.getD j [])
def shapeVd (M : List (List Nat)) : Bool := M.length == 4 && M.all (fun B => decide (1 ≤ B.length) && decide (B.length ≤ 3)) && decide M.flatten.Nodup && M.all (fun B => B.all (· < 6))

def modsVd : List (List (List Nat)) := [
  [[0], [1], [2], [3]],
  [[0], [1], [2], [4]],
  [[0], [1], [2], [5]],
  [[0], [1], [3], [4]],
  [[0], [1], [3], [5]],
  [[0], [1], [4], [5]],
  [[0], [2], [3], [4]],
  [[0], [2], [3], [5]],
  [[0], [2], [4], [5]],
  [[0], [3], [4], [5]],
  [[1], [2], [3], [4]],
  [[1], [2], [3], [5]],
  [[1], [2], [4], [5]],
  [[1], [3], [4], [5]],
  [[2], [3], [4], [5]],
  [[0, 1], [2], [3], [4]],
  [[0, 1], [2], [3], [5]],
  [[0, 1], [2], [4], [5]],
  [[0, 1], [3], [4], [5]],
  [[0, 2], [1], [3], [4]],
  [[0, 2], [1], [3], [5]],
  [[0, 2], [1], [4], [5]],
  [[0, 2], [3], [4], [5]],
  [[0, 3], [1], [2], [4]],
  [[0, 3], [1], [2], [5]],
  [[0, 3], [1], [4], [5]],
  [[0, 3], [2], [4], [5]],
  [[0, 4], [1], [2], [3]],
  [[0, 4], [1], [2], [5]],
  [[0, 4], [1], [3], [5]],
  [[0, 4], [2], [3], [5]],
  [[0, 5], [1], [2], [3]],
  [[0, 5], [1], [2], [4]],
  [[0, 5], [1], [3], [4]],
  [[0, 5], [2], [3], [4]],
  [[1, 2], [0], [3], [4]],
  [[1, 2], [0], [3], [5]],
  [[1, 2], [0], [4], [5]],
  [[1, 2], [3], [4], [5]],
  [[1, 3], [0], [2], [4]],
  [[1, 3], [0], [2], [5]],
  [[1, 3], [0], [4], [5]],
  [[1, 3], [2], [4], [5]],
  [[1, 4], [0], [2], [3]],
  [[1, 4], [0], [2], [5]],
  [[1, 4], [0], [3], [5]],
  [[1, 4], [2], [3], [5]],
  [[1, 5], [0], [2], [3]],
  [[1, 5], [0], [2], [4]],
  [[1, 5], [0], [3], [4]],
  [[1, 5], [2], [3], [4]],
  [[2, 3], [0], [1], [4]],
  [[2, 3], [0], [1], [5]],
  [[2, 3], [0], [4], [5]],
  [[2, 3], [1], [4], [5]],
  [[2, 4], [0], [1], [3]],
  [[2, 4], [0], [1], [5]],
  [[2, 4], [0], [3], [5]],
  [[2, 4], [1], [3], [5]],
  [[2, 5], [0], [1], [3]],
  [[2, 5], [0], [1], [4]],
  [[2, 5], [0], [3], [4]],
  [[2, 5], [1], [3], [4]],
  [[3, 4], [0], [1], [2]],
  [[3, 4], [0], [1], [5]],
  [[3, 4], [0], [2], [5]],
  [[3, 4], [1], [2], [5]],
  [[3, 5], [0], [1], [2]],
  [[3, 5], [0], [1], [4]],
  [[3, 5], [0], [2], [4]],
  [[3, 5], [1], [2], [4]],
  [[4, 5], [0], [1], [2]],
  [[4, 5], [0], [1], [3]],
  [[4, 5], [0], [2], [3]],
  [[4, 5], [1], [2], [3]],
  [[0, 1, 2], [3], [4], [5]],
  [[0, 1, 3], [2], [4], [5]],
  [[0, 1, 4], [2], [3], [5]],
  [[0, 1, 5], [2], [3], [4]],
  [[0, 2, 3], [1], [4], [5]],
  [[0, 2, 4], [1], [3], [5]],
  [[0, 2, 5], [1], [3], [4]],
  [[0, 3, 4], [1], [2], [5]],
  [[0, 3, 5], [1], [2], [4]],
  [[0, 4, 5], [1], [2], [3]],
  [[1, 2, 3], [0], [4], [5]],
  [[1, 2, 4], [0], [3], [5]],
  [[1, 2, 5], [0], [3], [4]],
  [[1, 3, 4], [0], [2], [5]],
  [[1, 3, 5], [0], [2], [4]],
  [[1, 4, 5], [0], [2], [3]],
  [[2, 3, 4], [0], [1], [5]],
  [[2, 3, 5], [0], [1], [4]],
  [[2, 4, 5], [0], [1], [3]],
  [[3, 4, 5], [0], [1], [2]],
  [[0, 1], [2, 3], [4], [5]],
  [[0, 1], [2, 4], [3], [5]],
  [[0, 1], [2, 5], [3], [4]],
  [[0, 1], [3, 4], [2], [5]],
  [[0, 1], [3, 5], [2], [4]],
  [[0, 1], [4, 5], [2], [3]],
  [[0, 2], [1, 3], [4], [5]],
  [[0, 2], [1, 4], [3], [5]],
  [[0, 2], [1, 5], [3], [4]],
  [[0, 2], [3, 4], [1], [5]],
  [[0, 2], [3, 5], [1], [4]],
  [[0, 2], [4, 5], [1], [3]],
  [[0, 3], [1, 2], [4], [5]],
  [[0, 3], [1, 4], [2], [5]],
  [[0, 3], [1, 5], [2], [4]],
  [[0, 3], [2, 4], [1], [5]],
  [[0, 3], [2, 5], [1], [4]],
  [[0, 3], [4, 5], [1], [2]],
  [[0, 4], [1, 2], [3], [5]],
  [[0, 4], [1, 3], [2], [5]],
  [[0, 4], [1, 5], [2], [3]],
  [[0, 4], [2, 3], [1], [5]],
  [[0, 4], [2, 5], [1], [3]],
  [[0, 4], [3, 5], [1], [2]],
  [[0, 5], [1, 2], [3], [4]],
  [[0, 5], [1, 3], [2], [4]],
  [[0, 5], [1, 4], [2], [3]],
  [[0, 5], [2, 3], [1], [4]],
  [[0, 5], [2, 4], [1], [3]],
  [[0, 5], [3, 4], [1], [2]],
  [[1, 2], [3, 4], [0], [5]],
  [[1, 2], [3, 5], [0], [4]],
  [[1, 2], [4, 5], [0], [3]],
  [[1, 3], [2, 4], [0], [5]],
  [[1, 3], [2, 5], [0], [4]],
  [[1, 3], [4, 5], [0], [2]],
  [[1, 4], [2, 3], [0], [5]],
  [[1, 4], [2, 5], [0], [3]],
  [[1, 4], [3, 5], [0], [2]],
  [[1, 5], [2, 3], [0], [4]],
  [[1, 5], [2, 4], [0], [3]],
  [[1, 5], [3, 4], [0], [2]],
  [[2, 3], [4, 5], [0], [1]],
  [[2, 4], [3, 5], [0], [1]],
  [[2, 5], [3, 4], [0], [1]]]
def condVd : List (List Nat) := [
  [1, 2, 4, 8, 16, 32],
  [1, 2, 4, 64, 128, 256],
  [1, 2, 4, 1024, 2048, 4096],
  [1, 8, 16, 64, 128, 512],
  [1, 8, 16, 1024, 2048, 8192],
  [1, 64, 128, 1024, 2048, 16384],
  [2, 8, 32, 64, 256, 512],
  [2, 8, 32, 1024, 4096, 8192],
  [2, 64, 256, 1024, 4096, 16384],
  [8, 64, 512, 1024, 8192, 16384],
  [4, 16, 32, 128, 256, 512],
  [4, 16, 32, 2048, 4096, 8192],
  [4, 128, 256, 2048, 4096, 16384],
  [16, 128, 512, 2048, 8192, 16384],
  [32, 256, 512, 4096, 8192, 16384],
  [1, 1, 6, 24, 32, 192, 256, 512],
  [1, 1, 6, 24, 32, 3072, 4096, 8192],
  [1, 1, 6, 192, 256, 3072, 4096, 16384],
  [1, 1, 24, 192, 512, 3072, 8192, 16384],
  [2, 2, 5, 40, 16, 320, 128, 512],
  [2, 2, 5, 40, 16, 5120, 2048, 8192],
  [2, 2, 5, 320, 128, 5120, 2048, 16384],
  [2, 2, 40, 320, 512, 5120, 8192, 16384],
  [8, 8, 17, 34, 4, 576, 128, 256],
  [8, 8, 17, 34, 4, 9216, 2048, 4096],
  [8, 8, 17, 576, 128, 9216, 2048, 16384],
  [8, 8, 34, 576, 256, 9216, 4096, 16384],
  [64, 64, 129, 258, 4, 520, 16, 32],
  [64, 64, 129, 258, 4, 17408, 2048, 4096],
  [64, 64, 129, 520, 16, 17408, 2048, 8192],
  [64, 64, 258, 520, 32, 17408, 4096, 8192],
  [1024, 1024, 2049, 4098, 4, 8200, 16, 32],
  [1024, 1024, 2049, 4098, 4, 16448, 128, 256],
  [1024, 1024, 2049, 8200, 16, 16448, 128, 512],
  [1024, 1024, 4098, 8200, 32, 16448, 256, 512],
  [4, 4, 3, 48, 8, 384, 64, 512],
  [4, 4, 3, 48, 8, 6144, 1024, 8192],
  [4, 4, 3, 384, 64, 6144, 1024, 16384],
  [4, 4, 48, 384, 512, 6144, 8192, 16384],
  [16, 16, 9, 36, 2, 640, 64, 256],
  [16, 16, 9, 36, 2, 10240, 1024, 4096],
  [16, 16, 9, 640, 64, 10240, 1024, 16384],
  [16, 16, 36, 640, 256, 10240, 4096, 16384],
  [128, 128, 65, 260, 2, 528, 8, 32],
  [128, 128, 65, 260, 2, 18432, 1024, 4096],
  [128, 128, 65, 528, 8, 18432, 1024, 8192],
  [128, 128, 260, 528, 32, 18432, 4096, 8192],
  [2048, 2048, 1025, 4100, 2, 8208, 8, 32],
  [2048, 2048, 1025, 4100, 2, 16512, 64, 256],
  [2048, 2048, 1025, 8208, 8, 16512, 64, 512],
  [2048, 2048, 4100, 8208, 32, 16512, 256, 512],
  [32, 32, 10, 20, 1, 768, 64, 128],
  [32, 32, 10, 20, 1, 12288, 1024, 2048],
  [32, 32, 10, 768, 64, 12288, 1024, 16384],
  [32, 32, 20, 768, 128, 12288, 2048, 16384],
  [256, 256, 66, 132, 1, 544, 8, 16],
  [256, 256, 66, 132, 1, 20480, 1024, 2048],
  [256, 256, 66, 544, 8, 20480, 1024, 8192],
  [256, 256, 132, 544, 16, 20480, 2048, 8192],
  [4096, 4096, 1026, 2052, 1, 8224, 8, 16],
  [4096, 4096, 1026, 2052, 1, 16640, 64, 128],
  [4096, 4096, 1026, 8224, 8, 16640, 64, 512],
  [4096, 4096, 2052, 8224, 16, 16640, 128, 512],
  [512, 512, 72, 144, 1, 288, 2, 4],
  [512, 512, 72, 144, 1, 24576, 1024, 2048],
  [512, 512, 72, 288, 2, 24576, 1024, 4096],
  [512, 512, 144, 288, 4, 24576, 2048, 4096],
  [8192, 8192, 1032, 2064, 1, 4128, 2, 4],
  [8192, 8192, 1032, 2064, 1, 16896, 64, 128],
  [8192, 8192, 1032, 4128, 2, 16896, 64, 256],
  [8192, 8192, 2064, 4128, 4, 16896, 128, 256],
  [16384, 16384, 1088, 2176, 1, 4352, 2, 4],
  [16384, 16384, 1088, 2176, 1, 8704, 8, 16],
  [16384, 16384, 1088, 4352, 2, 8704, 8, 32],
  [16384, 16384, 2176, 4352, 4, 8704, 16, 32],
  [3, 5, 6, 56, 448, 512, 7168, 8192, 16384],
  [9, 17, 24, 38, 704, 256, 11264, 4096, 16384],
  [65, 129, 192, 262, 536, 32, 19456, 4096, 8192],
  [1025, 2049, 3072, 4102, 8216, 32, 16576, 256, 512],
  [10, 34, 40, 21, 832, 128, 13312, 2048, 16384],
  [66, 258, 320, 133, 552, 16, 21504, 2048, 8192],
  [1026, 4098, 5120, 2053, 8232, 16, 16704, 128, 512],
  [72, 520, 576, 145, 290, 4, 25600, 2048, 4096],
  [1032, 8200, 9216, 2065, 4130, 4, 16960, 128, 256],
  [1088, 16448, 17408, 2177, 4354, 4, 8712, 16, 32],
  [20, 36, 48, 11, 896, 64, 14336, 1024, 16384],
  [132, 260, 384, 67, 560, 8, 22528, 1024, 8192],
  [2052, 4100, 6144, 1027, 8240, 8, 16768, 64, 512],
  [144, 528, 640, 73, 292, 2, 26624, 1024, 4096],
  [2064, 8208, 10240, 1033, 4132, 2, 17024, 64, 256],
  [2176, 16512, 18432, 1089, 4356, 2, 8720, 8, 32],
  [288, 544, 768, 74, 148, 1, 28672, 1024, 2048],
  [4128, 8224, 12288, 1034, 2068, 1, 17152, 64, 128],
  [4352, 16640, 20480, 1090, 2180, 1, 8736, 8, 16],
  [8704, 16896, 24576, 1096, 2192, 1, 4384, 2, 4],
  [1, 1, 32, 32, 30, 192, 768, 3072, 12288, 16384],
  [1, 1, 256, 256, 198, 24, 544, 3072, 20480, 8192],
  [1, 1, 4096, 4096, 3078, 24, 8224, 192, 16640, 512],
  [1, 1, 512, 512, 216, 6, 288, 3072, 24576, 4096],
  [1, 1, 8192, 8192, 3096, 6, 4128, 192, 16896, 256],
  [1, 1, 16384, 16384, 3264, 6, 4352, 24, 8704, 32],
  [2, 2, 16, 16, 45, 320, 640, 5120, 10240, 16384],
  [2, 2, 128, 128, 325, 40, 528, 5120, 18432, 8192],
  [2, 2, 2048, 2048, 5125, 40, 8208, 320, 16512, 512],
  [2, 2, 512, 512, 360, 5, 144, 5120, 24576, 2048],
  [2, 2, 8192, 8192, 5160, 5, 2064, 320, 16896, 128],
  [2, 2, 16384, 16384, 5440, 5, 2176, 40, 8704, 16],
  [8, 8, 4, 4, 51, 576, 384, 9216, 6144, 16384],
  [8, 8, 128, 128, 593, 34, 260, 9216, 18432, 4096],
  [8, 8, 2048, 2048, 9233, 34, 4100, 576, 16512, 256],
  [8, 8, 256, 256, 610, 17, 132, 9216, 20480, 2048],
  [8, 8, 4096, 4096, 9250, 17, 2052, 576, 16640, 128],
  [8, 8, 16384, 16384, 9792, 17, 2176, 34, 4352, 4],
  [64, 64, 4, 4, 387, 520, 48, 17408, 6144, 8192],
  [64, 64, 16, 16, 649, 258, 36, 17408, 10240, 4096],
  [64, 64, 2048, 2048, 17537, 258, 4100, 520, 8208, 32],
  [64, 64, 32, 32, 778, 129, 20, 17408, 12288, 2048],
  [64, 64, 4096, 4096, 17666, 129, 2052, 520, 8224, 16],
  [64, 64, 8192, 8192, 17928, 129, 2064, 258, 4128, 4],
  [1024, 1024, 4, 4, 6147, 8200, 48, 16448, 384, 512],
  [1024, 1024, 16, 16, 10249, 4098, 36, 16448, 640, 256],
  [1024, 1024, 128, 128, 18497, 4098, 260, 8200, 528, 32],
  [1024, 1024, 32, 32, 12298, 2049, 20, 16448, 768, 128],
  [1024, 1024, 256, 256, 20546, 2049, 132, 8200, 544, 16],
  [1024, 1024, 512, 512, 24648, 2049, 144, 4098, 288, 4],
  [4, 4, 512, 512, 432, 3, 72, 6144, 24576, 1024],
  [4, 4, 8192, 8192, 6192, 3, 1032, 384, 16896, 64],
  [4, 4, 16384, 16384, 6528, 3, 1088, 48, 8704, 8],
  [16, 16, 256, 256, 676, 9, 66, 10240, 20480, 1024],
  [16, 16, 4096, 4096, 10276, 9, 1026, 640, 16640, 64],
  [16, 16, 16384, 16384, 10880, 9, 1088, 36, 4352, 2],
  [128, 128, 32, 32, 788, 65, 10, 18432, 12288, 1024],
  [128, 128, 4096, 4096, 18692, 65, 1026, 528, 8224, 8],
  [128, 128, 8192, 8192, 18960, 65, 1032, 260, 4128, 2],
  [2048, 2048, 32, 32, 12308, 1025, 10, 16512, 768, 64],
  [2048, 2048, 256, 256, 20612, 1025, 66, 8208, 544, 8],
  [2048, 2048, 512, 512, 24720, 1025, 72, 4100, 288, 2],
  [32, 32, 16384, 16384, 13056, 10, 1088, 20, 2176, 1],
  [256, 256, 8192, 8192, 21024, 66, 1032, 132, 2064, 1],
  [4096, 4096, 512, 512, 24864, 1026, 72, 2052, 144, 1]]
theorem condVd_eq : condVd = modsVd.map condsVd := by decide +kernel
theorem modsVd_ok : modsVd.all shapeVd = true := by decide +kernel

def degVd : List Nat := [1099, 2197, 4390, 8760, 17344, 31744]
/-- One or two bits. -/
def fewVd (x : Nat) : Bool := x != 0 && (x ^^^ 2 ^ x.log2 == 0 || (x ^^^ 2 ^ x.log2) ^^^ 2 ^ (x ^^^ 2 ^ x.log2).log2 == 0)
def chkVd (c : Nat) : Bool := degVd.any (fun m => fewVd (c &&& m)) || c == 0 || condVd.any fun l => l.all fun m => c &&& m != 0
def allVd (p : Nat → Bool) : Nat → Nat → Bool
  | 0, c => p c
  | k + 1, c => allVd p k (2 * c) && allVd p k (2 * c + 1)
theorem allVd_yes {p : Nat → Bool} : ∀ (k c : Nat), allVd p k c = true → ∀ x, x < 2 ^ k → p (c * 2 ^ k + x) = true
  | 0, c, h, x, hx => by
    obtain rfl : x = 0 := by omega
    rw [allVd] at h; simpa using h
  | k + 1, c, h, x, hx => by
    rw [allVd, Bool.and_eq_true] at h
    have e : 2 ^ (k + 1) = 2 * 2 ^ k := by rw [Nat.pow_succ]; omega
    by_cases hx2 : x < 2 ^ k
    · have := allVd_yes k _ h.1 x hx2
      rwa [show c * 2 ^ (k + 1) = 2 * c * 2 ^ k by rw [e, ← Nat.mul_assoc, Nat.mul_comm c 2]]
    · have := allVd_yes k _ h.2 (x - 2 ^ k) (by omega)
      rw [show (2 * c + 1) * 2 ^ k + (x - 2 ^ k) = c * 2 ^ (k + 1) + x by
        rw [e, ← Nat.mul_assoc, Nat.mul_comm c 2, Nat.add_mul]; omega] at this
      exact this
set_option maxRecDepth 100000 in
theorem chkVd_all : allVd chkVd 15 0 = true := by decide +kernel

end Go.Proofs.YtiooindlpinjhaaDoor
