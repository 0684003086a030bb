/- Walk: the program's BestBramble. -/
import Derived.Test.YtiooindlpinjhaaDoorBbQ26
import Derived.Test.YtiooindlpinjhaaDoorBbQ30
import Derived.Test.YtiooindlpinjhaaDoorBbQ11
import Derived.Test.YtiooindlpinjhaaDoorBbQ5
import Derived.Deep.RegionHeld3
import Derived.Deep.DeepCutAuto
namespace Go.Proofs.YtiooindlpinjhaaDoor
open Go.RowKit

/-- The best bramble. -/
noncomputable def bbZ (n : Nat) (E : Nat → Nat → Bool) : List (List Nat) := setsL n (twS n E 0)
noncomputable def bbO (n : Nat) (E : Nat → Nat → Bool) : Option (List (List Nat)) := pickN (TchE E) (choL n E (bbZ n E)) (bbZ n E).length []
noncomputable def bbL (n : Nat) (E : Nat → Nat → Bool) : List (List Nat) := match bbO n E with
  | none => []
  | some L => ddpL [] L
def BbS (g gg : List (List Int)) : Prop := ((GOk g ∧ g.length ≤ 8) ∧ gg = (bbL g.length (ofG g)).map natInts) ∨ (¬ (GOk g ∧ g.length ≤ 8) ∧ gg = [])
theorem bbS_det {g a b : List (List Int)} (h : BbS g a) (k : BbS g b) : a = b := by
  rcases h with ⟨h1, h2⟩ | ⟨h1, h2⟩ <;> rcases k with ⟨k1, k2⟩ | ⟨k1, k2⟩
  · rw [h2, k2]
  · exact absurd h1 k1
  · exact absurd k1 h1
  · rw [h2, k2]
theorem bbL_len {n : Nat} {E : Nat → Nat → Bool} (hn : n ≤ 16) : (bbL n E).length ≤ 65536 := by
  unfold bbL
  cases h : bbO n E with
  | none => simp
  | some L =>
    obtain ⟨h1, _⟩ := pickN_len _ _ _ h
    have h2 := ddpL_le L []
    have h3 := setsL_len hn (twS n E 0)
    rw [List.length_nil] at h1 h2
    show (ddpL [] L).length ≤ 65536
    unfold bbZ at h1
    omega
theorem choL_setN {n : Nat} {E : Nat → Nat → Bool} {Z : List (List Nat)} : ∀ j, j < (choL n E Z).length → ∀ p ∈ (choL n E Z).getD j [], SetN n p := fun j hj p hp => by
  rw [choL_length] at hj
  rw [choL_at hj] at hp
  exact ⟨(prtK_in hp).1, (prtK_in hp).2.1⟩
theorem pickN_in {Tch : List Nat → List Nat → Prop} {C : List (List (List Nat))} {P : List Nat → Prop} (hC : ∀ j, j < C.length → ∀ p ∈ C.getD j [], P p) : ∀ (r : Nat) (ch L : List (List Nat)), ch.length + r ≤ C.length → (∀ p ∈ ch, P p) → pickN Tch C r ch = some L → ∀ p ∈ L, P p
  | 0, ch, L, _, hch, h => by
    obtain rfl : ch = L := Option.some.inj h
    exact hch
  | r + 1, ch, L, hl, hch, h => by
    obtain ⟨p, hp1, hp⟩ := List.exists_of_findSome?_eq_some h
    by_cases e : dec (∀ t ∈ ch, Tch t p) = true
    · rw [if_pos e] at hp
      refine pickN_in hC r _ L (by rw [List.length_append, List.length_singleton]; omega) (fun x hx => ?_) hp
      rcases List.mem_append.1 hx with h1 | h1
      · exact hch x h1
      · rw [List.mem_singleton] at h1
        rw [h1]
        exact hC _ (by omega) p hp1
    · rw [if_neg e] at hp
      cases hp
theorem bbO_in {n : Nat} {E : Nat → Nat → Bool} {L : List (List Nat)} (h : bbO n E = some L) : ∀ p ∈ L, SetN n p :=
  pickN_in choL_setN _ [] L (by rw [choL_length]; simp) (fun p hp => by simp at hp) h
theorem mask_inj {n : Nat} (hn : n ≤ 16) {p q : List Nat} (hp : SetN n p) (hq : SetN n q) (h : mask (natInts p) = mask (natInts q)) : p = q := by
  have h1 := bitsOf_maskN hp.1 fun x hx => by have := hp.2 x hx; omega
  rw [h, bitsOf_maskN hq.1 fun x hx => by have := hq.2 x hx; omega] at h1
  exact h1.symm
theorem mem_mskL {n : Nat} (hn : n ≤ 16) {p : List Nat} {out : List (List Nat)} (hp : SetN n p) (ho : ∀ q ∈ out, SetN n q) : mask (natInts p) ∈ mskL out ↔ p ∈ out := by
  constructor
  · intro h
    obtain ⟨q, hq, e⟩ := List.mem_map.1 h
    rw [← mask_inj hn (ho q hq) hp e]
    exact hq
  · intro h
    exact List.mem_map_of_mem h

theorem rows_mskBb {n : Nat} (hn : n ≤ 16) {L : List (List Nat)} (h : ∀ p ∈ L, SetN n p) : rowsOf (mskL L) = L.map natInts := by
  unfold rowsOf mskL
  rw [List.map_map]
  refine List.map_congr_left fun l hl => ?_
  have hm := h l hl
  simp only [Function.comp]
  rw [bitsOf_maskN hm.1 fun x hx => by have := hm.2 x hx; omega]
/-- The choice as a list. -/
noncomputable def bbC (n : Nat) (E : Nat → Nat → Bool) : List (List Nat) := (bbO n E).getD []
theorem bbL_eq (n : Nat) (E : Nat → Nat → Bool) : bbL n E = ddpL [] (bbC n E) := by
  unfold bbL bbC
  cases bbO n E <;> rfl
theorem bbC_in {n : Nat} {E : Nat → Nat → Bool} : ∀ p ∈ bbC n E, SetN n p := fun p hp => by
  unfold bbC at hp
  cases h : bbO n E with
  | none => rw [h] at hp; simp at hp
  | some L => rw [h] at hp; exact bbO_in h p hp
theorem bbC_len {n : Nat} {E : Nat → Nat → Bool} (hn : n ≤ 16) : (bbC n E).length ≤ 65536 := by
  unfold bbC
  cases h : bbO n E with
  | none => simp
  | some L =>
    obtain ⟨h1, _⟩ := pickN_len _ _ _ h
    have h3 := setsL_len hn (twS n E 0)
    rw [List.length_nil] at h1
    show L.length ≤ 65536
    unfold bbZ at h1
    omega
theorem bbL_in {n : Nat} {E : Nat → Nat → Bool} : ∀ p ∈ bbL n E, SetN n p := fun p hp => by
  rw [bbL_eq] at hp
  rcases ddpL_mem _ _ _ hp with h | h
  · simp at h
  · exact bbC_in p h
theorem bbL_row {n : Nat} {E : Nat → Nat → Bool} (hn : n ≤ 16) (j : Nat) : (row ((bbL n E).map natInts) j).length ≤ 32 := by
  by_cases hj : j < (bbL n E).length
  · have e : row ((bbL n E).map natInts) j = natInts (bbL n E)[j] := by simp [row, hj]
    rw [e, natInts_length]
    have hm : SetN n (bbL n E)[j] := bbL_in _ (List.getElem_mem hj)
    rw [← bitsOf_maskN hm.1 fun x hx => by have := hm.2 x hx; omega]
    exact bitsOf_length _
  · have e : row ((bbL n E).map natInts) j = [] := by simp [row, hj]
    rw [e]; simp

theorem ofG_ltBb {g : List (List Int)} (hok : GOk g) : ∀ x y, ofG g x y = true → y < g.length := fun x y e => by
  refine Classical.byContradiction fun hn => ?_
  have e2 := ofG_sym hok _ _ e
  unfold ofG at e2
  rw [row_out hn] at e2
  simp at e2
/-- The row that grows beside what was chosen. -/
structure BbI (w6 wr : World) (ob : Nat) (base : Nat) (ov : Value) (L : List (List Nat)) : Prop where
  own : wr.ownsRow base 71 1 ov L.length ((mskL L).map u32v)
  sep : ∀ k, ov.ownBlock = some k → k = ob ∨ w6.heap.size ≤ k
  kept : ∀ b, b < w6.heap.size → b ≠ ob → wr.heap[b]? = w6.heap[b]?
  size : w6.heap.size ≤ wr.heap.size
theorem BbI.push {w6 wr w' : World} {ob base : Nat} {ov ov' : Value} {L : List (List Nat)} {p : List Nat} (h : BbI w6 wr ob base ov L) (ho : w'.ownsRow base 71 1 ov' (L.length + 1) ((mskL L).map u32v ++ [.int .u32 ((mask (natInts p) : Nat) : Int)])) (hg : wr.grownBy w' ov.ownBlock) (hs : ∀ k, ov'.ownBlock = some k → ov.ownBlock = some k ∨ wr.heap.size < k) : BbI w6 w' ob base ov' (L ++ [p]) where
  own := by
    rw [List.length_append, List.length_singleton, mskL_snoc, List.map_append]
    exact ho
  sep k hk := by
    rcases hs k hk with e | e
    · exact h.sep k e
    · have := h.size; exact .inr (by omega)
  kept b hb hne := by
    refine (hg.block b (by have := h.size; omega) fun e => ?_).trans (h.kept b hb hne)
    rcases h.sep b e.symm with e2 | e2
    · exact hne e2
    · omega
  size := Nat.le_trans h.size hg.size

set_option maxRecDepth 100000 in
set_option maxHeartbeats 400000 in
theorem indexVs_any (lp : Option Addr) (lc : Nat) (ms : List Nat) (m : Nat) (w : World) (hs : Sl w 71 (.slice lp ms.length lc) ms.length (ms.map u32v)) :
    Calls Tryd.prog 143 #[.slice lp ms.length lc, .int .u32 (m : Int)] w fun e w' => (∃ z : Int, e = .returned (.int .i64 z) ∧ -1 ≤ z ∧ z ≤ 1000000000 ∧ (0 ≤ z ↔ m ∈ ms)) ∧ w = w' := by
  have few : ms.length ≤ 1000000000 := by obtain ⟨_, _, _, _, _, h, _⟩ := hs; exact h
  have HSL := Lib.hid hs
  clear hs
  go_enter Tryd.func143, Tryd.ntmps143
  go_wp2
  go_loop [5, 8] (fun _ i => ∃ k : Nat, k ≤ ms.length ∧ i = .int .i64 k ∧ Hid (m ∉ ms.take k)) (fun _ i => ms.length - (intOf i).toNat)
  case atStart => exact ⟨0, Nat.zero_le _, rfl, Lib.hid (by simp)⟩
  case round =>
    obtain ⟨k, hk, rfl, HNK⟩ := hrel
    by_cases hlt : k < ms.length
    · obtain ⟨t, ht⟩ : ∃ t, t = ms[k] := ⟨_, rfl⟩
      obtain ⟨b, o, rfl, hcell⟩ := nets_cell HSL.out (v := k) hlt
      rw [← ht] at hcell
      have HT := Lib.hid ht
      clear ht
      by_cases he : t = m
      · have he' : ((m : Int) == (t : Int)) = true := by simp; omega
        have H := Lib.hid he
        clear he
        go_wp2
        go_ret
        exact ⟨⟨(k : Int), rfl, by omega, by omega, fun _ => by rw [← H.out, HT.out]; exact List.getElem_mem hlt, fun _ => by omega⟩, rfl⟩
      · have he' : ((m : Int) == (t : Int)) = false := by simp; omega
        have H := Lib.hid he
        clear he
        go_wp2
        go_round
        case rel => exact ⟨k + 1, by omega, by go_num, Lib.hid (by
          rw [List.take_succ_eq_append_getElem hlt]
          intro h
          rcases List.mem_append.1 h with h | h
          · exact HNK.out h
          · rw [List.mem_singleton, ← HT.out] at h
            exact H.out h.symm)⟩
        case measure => simp [intOf]; omega
    · obtain rfl : k = ms.length := by omega
      go_wp2
      go_ret
      have hnk := HNK.out
      rw [List.take_length] at hnk
      exact ⟨⟨-1, rfl, by omega, by omega, fun h => by omega, fun h => absurd h hnk⟩, rfl⟩
set_option maxRecDepth 100000 in
set_option maxHeartbeats 400000 in
theorem containsVs_any (lp : Option Addr) (lc : Nat) (ms : List Nat) (m : Nat) (w : World) (hs : Sl w 71 (.slice lp ms.length lc) ms.length (ms.map u32v)) :
    Calls Tryd.prog 95 #[.slice lp ms.length lc, .int .u32 (m : Int)] w fun e w' => e = .returned (.bool (dec (m ∈ ms))) ∧ w = w' := by
  have HSL := Lib.hid hs
  clear hs
  go_enter Tryd.func95, Tryd.ntmps95
  go_wp2_with (go_at_call 143; refine (indexVs_any lp lc ms m _ HSL.out).mono ?_; rintro e w2 ⟨⟨z, rfl, hz1, hz2, hz⟩, rfl⟩; have HZ := Lib.hid hz; clear hz)
  go_ret
  exact ⟨ret_bool (decide_dec_iffBb HZ.out), rfl⟩

set_option maxRecDepth 100000 in
set_option maxHeartbeats 8000000 in
theorem implBestBramble_any (v : Value) (g : List (List Int)) (w : World) (hg : Gr w v g) (hT : Tab w) :
    Calls Tryd.prog 30 #[v] w fun e w' => ∃ (u : Value) (gg : List (List Int)), e = .returned u ∧ BbS g gg ∧ DG w' w.heap.size (.agg #[u]) gg ∧ gg.length ≤ 65536 ∧ (∀ j, (row gg j).length ≤ 32) ∧ Below w.heap.size w w' := by
  have hg0 := Lib.hid hg
  obtain ⟨_, rfl, hr⟩ := hg
  obtain ⟨ga, gc, rfl, _⟩ := hr.shape
  obtain ⟨w1, hw1⟩ : ∃ w1, w1 = w.alloc (.cells #[.slice ga g.length gc] 28) := ⟨_, rfl⟩
  have HX : Hid (Box w1 w.heap.size 28 (.slice ga g.length gc)) := Lib.hid (by rw [hw1]; exact Box.new _ _ _)
  have HB1 : Hid (Below w.heap.size w w1) := Lib.hid (by rw [hw1]; exact below_alloc _ _)
  have HG1 := Lib.hid (hg0.out.below HB1.out)
  have HT1 := Lib.hid (hT.keep HB1.out)
  have s1 := HB1.out.size
  clear hr hg0 hT
  by_cases hok : GOk g ∧ g.length ≤ 8
  case neg =>
    have HD := Lib.hid (dec_false hok)
    have HOK := Lib.hid hok
    clear hok
    go_enter Tryd.func30, Tryd.ntmps30
    go_upto_region 1 with fail
    rw [← hw1]
    clear hw1
    have c1 := HX.out.cell
    go_wp2_with (go_at_call 88; refine (isSmall_any _ g _ HG1.out).mono ?_; rintro e w2 ⟨he, hb2⟩; rw [HD.out] at he; subst he)
    go_ret
    exact ⟨_, [], rfl, .inr ⟨HOK.out, rfl⟩, ⟨_, [], rfl, rfl, World.ownsRow_nil _ _ _ _, ⟨fun j hj => by simp at hj, fun i j hi => by simp at hi⟩⟩, by simp, fun j => by simp [row], HB1.out.trans (hb2.mono s1)⟩
  have HD := Lib.hid (dec_true hok)
  have HOK := Lib.hid hok
  have n8 := hok.2
  clear hok
  go_enter Tryd.func30, Tryd.ntmps30
  go_upto_region 1 with fail
  rw [← hw1]
  clear hw1
  have c1 := HX.out.cell
  go_upto_region 4 with (first
    | (go_at_call 54; refine (netsOf_any _ g _ (HG1.out.below hb2) HOK.out.1).mono ?_; rintro e w3 ⟨xv, rfl, ho3, hb3⟩; obtain ⟨xp, xc, rfl⟩ := owns_shapeBa ho3; have HO3 := Lib.hid ho3; have HB3 : Hid (Below w1.heap.size w1 w3) := Lib.hid (hb2.trans (hb3.mono hb2.size)); clear ho3 hb3)
    | (go_at_call 88; refine (isSmall_any _ g _ HG1.out).mono ?_; rintro e w2 ⟨he, hb2⟩; rw [HD.out] at he; subst he; have c2 := hb2.at' c1))
  obtain ⟨n, hn⟩ : ∃ n, n = g.length := ⟨_, rfl⟩
  obtain ⟨E, hE⟩ : ∃ E, E = ofG g := ⟨_, rfl⟩
  have HNE3 : Hid (NE w3 (.slice xp n xc) n E) := Lib.hid ⟨by omega, by rw [hn, hE, indN_ofG HOK.out.1]; exact Sl.of_owns HO3.out (by omega)⟩
  have HLT : Hid (∀ x y, E x y = true → y < n) := Lib.hid (by rw [hn, hE]; exact ofG_ltBb HOK.out.1)
  rw [← hn]
  rw [← hn] at n8
  have HT3 := Lib.hid (HT1.out.keep HB3.out)
  have s3 := HB3.out.size
  obtain ⟨w4, hw4⟩ : ∃ w4, w4 = (((w3.alloc (.cells #[] 66)).alloc (.cells #[.slice xp n xc] 67)).alloc (.cells #[.slice (some ⟨w3.heap.size, 0, none⟩) 0 0] 98)) := ⟨_, rfl⟩
  obtain ⟨ab, hab⟩ : ∃ ab, ab = w3.heap.size + 1 := ⟨_, rfl⟩
  obtain ⟨cb, hcb⟩ : ∃ cb, cb = ab + 1 := ⟨_, rfl⟩
  have HV4 : Hid (VsI w3 w4 n E cb ab xp xc []) := Lib.hid (by
    have b4 : Below w3.heap.size w3 w4 := by rw [hw4]; exact below_alloc3 _ _ _ _
    have hA := (Box.new (w3.alloc (.cells #[] 66)) (.slice xp n xc) 67).alloc (.cells #[.slice (some ⟨w3.heap.size, 0, none⟩) 0 0] 98)
    have hC := Box.new ((w3.alloc (.cells #[] 66)).alloc (.cells #[.slice xp n xc] 67)) (.slice (some ⟨w3.heap.size, 0, none⟩) 0 0) 98
    rw [size_alloc, ← hw4, ← hab] at hA
    rw [size_alloc, size_alloc, ← hw4, ← hab, ← hcb] at hC
    refine ⟨b4, HT3.out, by omega, by omega, hA, HNE3.out.next b4, _, hC, [], rfl, ?_, fun j hj => absurd hj (Nat.not_lt_zero _)⟩
    rw [hw4]
    exact ((ownsRow_empty w3 66 1).alloc _).alloc _)
  rw [← hw4, ← hab, ← hcb]
  have HN := Lib.hid hn
  have HEE := Lib.hid hE
  have s4 := HV4.out.bel.size
  clear hw4 hab hcb hn hE HO3 c1 c2 hb2
  obtain ⟨k, hk⟩ : ∃ k, k = twS n E 0 := ⟨_, rfl⟩
  have hkn : k ≤ n := by rw [hk]; exact twS_le n E _ 0 rfl
  have HK := Lib.hid hk
  have AFT : Hid (∀ (w5 w6 : World), Below w4.heap.size w4 w5 → WthI w5 w6 n E xp xc (w5.heap.size + 1) w5.heap.size 0 (.map []) → Calls Tryd.prog 91 #[.pointer (some ⟨w5.heap.size + 1, 0, none⟩), .int .u32 0] w6 fun e w' => e = .returned (.int .i64 (k : Int)) ∧ Below w5.heap.size w5 w') := Lib.hid fun w5 w6 hb h3 => by
    rw [HK.out]
    refine (widthsAfter_any w5 n E xp xc _ _ HLT.out (HV4.out.ne.next hb) ((HT3.out.keep HV4.out.bel).keep hb) _ 0 rfl (Nat.two_pow_pos _) w6 0 _ h3).mono ?_
    rintro e w' ⟨he, hp⟩
    obtain ⟨c', D', hI, _⟩ := hp.st
    exact ⟨he, hI.bel⟩
  obtain ⟨C, hC⟩ : ∃ C, C = choL n E (bbZ n E) := ⟨_, rfl⟩
  have hCl : C.length ≤ 65536 := by rw [hC, choL_length]; exact setsL_len (by omega) _
  have CHS : Hid (∀ wz, Below w4.heap.size w4 wz → Calls Tryd.prog 89 #[.int .i64 n, .int .i64 0, .int .i64 k, .int .u32 0, .func (.func 92) #[] #[.pointer (some ⟨cb, 0, none⟩), .pointer (some ⟨ab, 0, none⟩)]] wz fun e w' => e = .returned (.bool false) ∧ VsI w3 w' n E cb ab xp xc C) := Lib.hid fun wz hb => by
    have h1 : setsL n k = visO n k [] := setsL_grO n k
    have h2 : C = [] ++ (visO n k []).map (prtO n E) := by rw [hC, List.nil_append, ← h1, HK.out]; rfl
    rw [h2]
    refine chooseSets_vis n E cb ab xp xc w3 k [] [] 0 k 0 rfl rfl rfl hkn (Nat.zero_le _) List.Pairwise.nil (fun x hx => by simp at hx) (Nat.two_pow_pos _) ?_ wz (HV4.out.next hb)
    have := setsL_len (n := n) (by omega) k
    rw [← h1, List.length_nil]
    omega
  have HC := Lib.hid hC
  have ca := HV4.out.boxA.cell
  clear hk hC
  go_cut [20] (fun s wx => s = .bool false ∧ VsI w3 wx n E cb ab xp xc C)
  case first =>
    go_region_held3 (fun w' => w'.cell? ⟨ab, 0, none⟩ = some (.slice xp n xc))
      (first | exact ca | exact HI9.out.boxA.cell | exact (Below.at' (by first | exact BWB | exact BWA) ca))
      (first
        | (go_at_call 89; refine (CHS.out _ BWB).mono ?_; rintro e w9 ⟨rfl, hI9⟩; have HI9 := Lib.hid hI9; clear hI9)
        | (go_at_call 91; refine (AFT.out _ _ (below_dN (Below.refl _ _) 1) HI5.out).mono ?_; rintro e w6 ⟨rfl, hb6⟩; have BWB : Below w4.heap.size w4 w6 := (below_dN (Below.refl _ _) 1).trans hb6; clear hb6)
        | (go_at_call 90; refine (newWidths_any xp xc n E _).mono ?_; rintro e w5 ⟨rfl, hI5⟩; have HI5 := Lib.hid hI5; have BWA : Below w4.heap.size w4 w5 := (below_dN (Below.refl _ _) 1).trans hI5.bel; clear hI5))
    all_goals go_wp2
    all_goals go_meet
    all_goals exact ⟨rfl, HI9.out⟩
  case rest =>
  obtain ⟨rfl, hV⟩ := hcut
  obtain ⟨cv, hbx, hsv⟩ := hV.ch
  obtain ⟨vals, hvl, hown, hrw⟩ := id hsv
  obtain ⟨cp, cc, rfl⟩ := owns_shapeBa hown
  have HCR := Lib.hid (hsv.cr (by omega))
  have HV := Lib.hid hV
  have hca := hV.boxA.cell
  have hcc := hbx.cell
  have HTC := Lib.hid (hV.tab.keep hV.bel)
  have HNEC := Lib.hid hV.ne
  have HBC := Lib.hid hV.bel
  have sc := hV.bel.size
  clear hV hbx hsv hvl hown hrw ca
  obtain ⟨LL, hLL⟩ : ∃ LL, LL = bbC n E := ⟨_, rfl⟩
  have hll : LL.length ≤ 65536 := by rw [hLL]; exact bbC_len (by omega)
  have HLL : Hid (∀ p ∈ LL, SetN n p) := Lib.hid (by rw [hLL]; exact bbC_in)
  obtain ⟨ll, hle⟩ : ∃ ll, ll = LL.length := ⟨_, rfl⟩
  obtain ⟨m, hm⟩ : ∃ m, m = C.length := ⟨_, rfl⟩
  rw [← hm] at hcc HCR hCl
  have PICK : Hid (∀ wz hb, Below wc.heap.size wc wz → Sl wz 71 (.slice (some ⟨hb, 0, none⟩) 0 0) 0 [] → Calls Tryd.prog 94 #[.slice xp n xc, .slice cp m cc, .slice (some ⟨hb, 0, none⟩) 0 0] wz fun e w' => ∃ (up : Option Addr) (uc : Nat), e = .returned (.slice up ll uc) ∧ Sl w' 71 (.slice up ll uc) LL.length ((mskL LL).map u32v) ∧ Below wz.heap.size wz w') := Lib.hid fun wz hb hz hsl => by
    refine (choosePart_any n E xp xc C cp cc m hm (by rw [HC.out]; exact choL_setN) (by omega) m 0 [] rfl (by omega) (fun p hp => by simp at hp) hb 0 wz (HNEC.out.next hz) (HTC.out.keep hz) (HCR.out.next hz) hsl).mono ?_
    rintro e w' ⟨u, rfl, hr, hb'⟩
    have e1 : pickN (TchE E) C m [] = bbO n E := by rw [hm, HC.out, choL_length]; rfl
    rw [e1] at hr
    cases h : bbO n E with
    | none =>
      rw [h] at hr
      change u = .slice none 0 0 at hr
      subst hr
      have e2 : LL = [] := by rw [hLL]; unfold bbC; rw [h]; rfl
      rw [hle, e2]
      exact ⟨none, 0, rfl, ⟨none, 0, rfl, fun _ => ⟨rfl, rfl⟩, Nat.le_refl _, Nat.zero_le _, .inl rfl⟩, hb'⟩
    | some L =>
      rw [h] at hr
      obtain ⟨b, c, rfl, hs⟩ := hr
      have e2 : LL = L := by rw [hLL]; unfold bbC; rw [h]; rfl
      rw [hle, e2]
      exact ⟨_, c, rfl, hs, hb'⟩
  have HLB : Hid (LL = bbC n E) := Lib.hid hLL
  have HLE := Lib.hid hle
  have hll2 : ll ≤ 65536 := by omega
  clear hLL hle hm
  obtain ⟨w5, hw5⟩ : ∃ w5, w5 = wc.alloc (.cells #[] 71) := ⟨_, rfl⟩
  obtain ⟨ob, hob⟩ : ∃ ob, ob = wc.heap.size := ⟨_, rfl⟩
  have hb5 : Below wc.heap.size wc w5 := by rw [hw5]; exact below_alloc _ _
  have HO5 : Hid (w5.ownsRow wc.heap.size 71 1 (.slice (some ⟨ob, 0, none⟩) 0 0) 0 []) := Lib.hid (by rw [hw5, hob]; exact ownsRow_empty _ _ _)
  have HE5 : Hid (w5.heap[ob]? = some (.cells #[] 71 (0, 0))) := Lib.hid (by rw [hw5, hob]; exact heap_alloc_new _ _)
  have HOB : Hid (ob < w5.heap.size) := Lib.hid (by rw [hw5, hob, size_alloc]; omega)
  have HB5 := Lib.hid hb5
  have s5 := hb5.size
  have BW5 := HB5.out.alloc s5 (.cells #[] 71)
  have SW5 := Sl.of_owns (ownsRow_empty w5 71 1) (Nat.zero_le _)
  go_upto_region 6 with fail
  rw [← hw5, ← hob]
  have hca5 := hb5.at' hca
  have hcc5 := hb5.at' hcc
  clear hw5 hb5 hca hcc hob
  go_upto_region 7 with (go_at_call 94; refine (PICK.out _ _ BW5 SW5).mono ?_; rintro e w6 ⟨up, uc, rfl, hs6, hb6⟩; have HS6 := Lib.hid hs6; have HB56 : Hid (Below w5.heap.size w5 w6) := Lib.hid (Below.trans (below_alloc w5 (.cells #[] 71)) (hb6.mono (below_alloc w5 (.cells #[] 71)).size)); clear hs6 hb6)
  have s6 := HB56.out.size
  have HE6 : Hid (w6.heap[ob]? = some (.cells #[] 71 (0, 0))) := Lib.hid ((HB56.out.block _ HOB.out).trans HE5.out)
  have START : Hid (BbI w6 w6 ob wc.heap.size (.slice (some ⟨ob, 0, none⟩) 0 0) []) := Lib.hid ⟨ownsRow_below HO5.out HB56.out, fun k hk => .inl (by simp [Value.ownBlock] at hk; exact hk.symm), fun _ _ _ => rfl, Nat.le_refl _⟩
  have HLQ := Lib.hid hll
  clear hll hca5 hcc5
  go_loopw [5, 27] (fun ov iv wr => ∃ j : Nat, j ≤ ll ∧ iv = .int .i64 (j : Int) ∧ Hid (BbI w6 wr ob wc.heap.size ov (ddpL [] (LL.take j))) ∧ Hid (Below wc.heap.size wc wr)) (fun _ iv _ => ll - (intOf iv).toNat)
  case atStart => exact ⟨0, Nat.zero_le _, rfl, START, Lib.hid (HB5.out.trans (HB56.out.mono s5))⟩
  case round =>
    clear START
    obtain ⟨j, hj, rfl, HI, HBR⟩ := hrel
    obtain ⟨OUT, hO⟩ : ∃ O, O = ddpL [] (LL.take j) := ⟨_, rfl⟩
    rw [← hO] at HI
    have hol : OUT.length ≤ 65536 := by
      have h1 := ddpL_le (LL.take j) []
      rw [List.length_take, List.length_nil] at h1
      have := HLQ.out
      rw [hO]
      omega
    obtain ⟨op, oc, hov⟩ := owns_shapeBa HI.out.own
    rw [hov]
    rw [hov] at HI
    clear hov
    by_cases hlt : j < ll
    · have hlL : j < LL.length := by rw [← HLE.out]; exact hlt
      obtain ⟨p, hp⟩ : ∃ p, p = LL[j] := ⟨_, rfl⟩
      have hps : SetN n p := HLL.out p (by rw [hp]; exact List.getElem_mem hlL)
      obtain ⟨s, hs⟩ : ∃ s, s = mask (natInts p) := ⟨_, rfl⟩
      obtain ⟨tb, t0, rfl, htc⟩ : ∃ b o, up = some ⟨b, o, none⟩ ∧ wr.cell? ⟨b, o + j, none⟩ = some (.int .u32 (s : Int)) := by
        have h2 : LL.length = (mskL LL).length := (mskL_length LL).symm
        have h3 : Sl w6 71 (.slice up LL.length uc) (mskL LL).length ((mskL LL).map u32v) := by
          have := HS6.out
          rw [HLE.out] at this
          rw [← h2]
          exact this
        obtain ⟨b, o, e1, e2⟩ := nets_cell (v := j) h3 (by rw [← h2]; exact hlL)
        have e3 : ((mskL LL)[j]'(by rw [← h2]; exact hlL)) = s := by simp [mskL, hs, hp]
        rw [e3] at e2
        refine ⟨b, o, e1, ?_⟩
        have hbo : b ≠ ob := fun e => by
          rw [e] at e2
          unfold World.cell? at e2
          rw [HE6.out] at e2
          simp at e2
        have hbl : b < w6.heap.size := World.block_lt_of_cell? w6 _ e2
        have hkk := HI.out.kept b hbl hbo
        unfold World.cell? at e2 ⊢
        rw [hkk]
        exact e2
      have HTK : Hid (ddpL [] (LL.take (j + 1)) = if p ∈ OUT then OUT else OUT ++ [p]) := Lib.hid (by rw [List.take_succ_eq_append_getElem hlL, ← hp, ddpL_snoc, ← hO])
      have HOS : Hid (∀ q ∈ OUT, SetN n q) := Lib.hid (fun q hq => by
        rw [hO] at hq
        rcases ddpL_mem _ _ _ hq with h | h
        · simp at h
        · exact HLL.out q (List.mem_of_mem_take h))
      have HMM : Hid (s ∈ mskL OUT ↔ p ∈ OUT) := Lib.hid (by rw [hs]; exact mem_mskL (by omega) hps HOS.out)
      have HSE := Lib.hid hs
      have CONT : Hid (Calls Tryd.prog 95 #[.slice op OUT.length oc, .int .u32 (s : Int)] wr fun e w' => e = .returned (.bool (dec (s ∈ mskL OUT))) ∧ wr = w') := Lib.hid (by
        have h1 := Sl.of_owns HI.out.own (by omega)
        have h2 : OUT.length = (mskL OUT).length := (mskL_length OUT).symm
        rw [h2] at h1 ⊢
        exact containsVs_any op oc (mskL OUT) s wr h1)
      clear hO hp hps hs hlL
      by_cases hin : p ∈ OUT
      · have hd := Lib.hid (dec_true (HMM.out.2 hin))
        have HIN := Lib.hid hin
        clear hin
        go_wp2_with (go_at_call 95; refine CONT.out.mono ?_; rintro e w7 ⟨he, hw⟩; rw [hd.out] at he; subst he; subst hw)
        go_roundw
        case rel => exact ⟨j + 1, by omega, by go_num, by rw [HTK.out, if_pos HIN.out]; exact HI, HBR⟩
        case measure => simp [intOf]; omega
      · have hd := Lib.hid (dec_false (fun h => hin (HMM.out.1 h)))
        have HIN := Lib.hid hin
        have hw9 : OUT.length < 1000000000 := by omega
        have hle9 : wc.heap.size ≤ wr.heap.size := HBR.out.size
        clear hin
        go_wp2_with (first
          | (at_builtin; refine wpList_app1 ty_vsets rfl rfl rfl HI.out.own rfl rfl hw9 hle9 ?_; intro v' w8 hown8 hg8 hs8; have HP8 : Hid (BbI w6 w8 ob wc.heap.size v' (OUT ++ [p])) := Lib.hid (HI.out.push (by rw [← HSE.out]; exact hown8) hg8 hs8); have HB8 : Hid (Below wc.heap.size wc w8) := Lib.hid (below_grown HBR.out HI.out.own hg8 (Nat.le_refl _) hle9); clear hown8 hg8 hs8)
          | (go_at_call 95; refine CONT.out.mono ?_; rintro e w7 ⟨he, hw⟩; rw [hd.out] at he; subst he; subst hw))
        go_roundw
        case rel => exact ⟨j + 1, by omega, by go_num, by rw [HTK.out, if_neg HIN.out]; exact HP8, HB8⟩
        case measure => simp [intOf]; omega
    · obtain rfl : j = ll := by omega
      have HOO : Hid (OUT = bbL n E) := Lib.hid (by rw [hO, HLE.out, List.take_length, HLB.out, bbL_eq])
      have HOS : Hid (∀ q ∈ OUT, SetN n q) := Lib.hid (fun q hq => by
        rw [hO] at hq
        rcases ddpL_mem _ _ _ hq with h | h
        · simp at h
        · exact HLL.out q (List.mem_of_mem_take h))
      have RES : Hid (Calls Tryd.prog 96 #[.slice op OUT.length oc] wr fun e w' => ∃ u, e = .returned u ∧ DG w' wr.heap.size (.agg #[u]) (OUT.map natInts) ∧ Below wr.heap.size wr w') := Lib.hid (by
        have h1 := Sl.of_owns HI.out.own (by omega)
        have h2 : OUT.length = (mskL OUT).length := (mskL_length OUT).symm
        have h3 := rows_mskBb (by omega) HOS.out
        rw [h2] at h1 ⊢
        rw [← h3]
        exact results_any _ (mskL OUT) (fun s hs => by
          obtain ⟨l, hl, rfl⟩ := List.mem_map.1 hs
          have := ((HOS.out l hl).bits (by omega)).1
          omega) (by rw [mskL_length]; omega) wr h1 (HTC.out.keep HBR.out))
      clear hO
      go_wp2_with (go_at_call 96; refine RES.out.mono ?_; rintro e w9 ⟨u, rfl, hd9, hb9⟩; have HD9 := Lib.hid hd9; have HB9 := Lib.hid hb9; clear hd9 hb9)
      go_ret
      have q1 := HBR.out.size
      have q2 : w.heap.size ≤ wr.heap.size := by omega
      refine ⟨_, _, rfl, .inl ⟨HOK.out, ?_⟩, HD9.out.base q2, ?_, ?_, ?_⟩
      · rw [HOO.out, HN.out, HEE.out]
      · rw [List.length_map, HOO.out]; exact bbL_len (by omega)
      · rw [HOO.out]; exact bbL_row (by omega)
      · have b1 := HB1.out.trans (HB3.out.mono s1)
        have b2 := b1.trans (HBC.out.mono b1.size)
        have b3 := b2.trans (HBR.out.mono b2.size)
        exact b3.trans (HB9.out.mono b3.size)

end Go.Proofs.YtiooindlpinjhaaDoor
