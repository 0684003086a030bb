/- Walks: BestStable, BestClique, LeastCover; StableIn, CoverIn of right sets (the program's). -/
import Derived.Test.YtkppbmfliejnmaaDoorSnQ40
import Derived.Test.YtkppbmfliejnmaaDoorSnQ26
import Derived.Test.YtkppbmfliejnmaaDoorSnQ28
import Derived.Test.YtkppbmfliejnmaaDoorSnQ31
import Derived.Lib.Tables
import Derived.Lib.BitFns
namespace Go.Proofs.YtkppbmfliejnmaaDoor
open Go.RowKit

theorem ne_ind {n : Nat} {E : Nat → Nat → Bool} (hn : n ≤ 16) {w : World} {base : Nat} {x : Value} (h : w.ownsRow base 70 1 x n ((indN n E).map u32v)) : NE w x n E :=
  ⟨hn, Sl.of_owns h (by omega)⟩
set_option maxRecDepth 100000 in
set_option maxHeartbeats 2000000 in
theorem implBestStable_yes (v : Value) (g : List (List Int)) (w : World) (hg : Gr w v g) (hok : GOk g) (hT : Tab w) :
    Calls Tryd.prog 16 #[v] w fun e w' => ∃ (u : Value) (s : Nat), e = .returned u ∧ MaxP (StbP (ofG g)) g.length s ∧ w'.ownsRow w.heap.size 2 1 u (bitsOf s).length ((natInts (bitsOf s)).map (Value.int .i64)) ∧ Below w.heap.size w w' := by
  have hg0 := hg
  obtain ⟨u, rfl, hr⟩ := hg
  obtain ⟨p, c, rfl, _⟩ := hr.shape
  obtain ⟨W0, hW0⟩ : ∃ W0, W0 = w.alloc (.cells #[.slice p g.length c] 29) := ⟨_, rfl⟩
  have hb0 : Below w.heap.size w W0 := by rw [hW0]; exact below_alloc _ _
  have HB0 := Lib.hid hb0
  have HBG : Hid (Box W0 w.heap.size 29 (.slice p g.length c)) := Lib.hid (by rw [hW0]; exact Box.new _ _ _)
  have HG := Lib.hid (hg0.below hb0)
  have HT := Lib.hid (hT.keep hb0)
  have HOK := Lib.hid hok
  have HDT := Lib.hid (dec_true hok)
  have h16 := hok.le
  have c0 := HBG.out.cell
  clear hr hg0 hb0 hok hT
  go_enter Tryd.func16, Tryd.ntmps16
  go_upto_region 1 with fail
  rw [← hW0]
  clear hW0
  go_wp2_with (first
    | (go_at_call 90; refine (numbers_any _ s rfl (by have := HS16.out; omega) _ (HT.out.keep HB4.out)).mono ?_; rintro e w5 ⟨rv, rfl, ho5, hb5⟩; have HO5 := Lib.hid ho5; have HB5 := Lib.hid (HB4.out.trans (hb5.mono HB4.out.size)); have HZ5 := Lib.hid HB4.out.size; clear ho5 hb5)
    | (go_at_call 88; refine (bestStable_any g.length (ofG g) xp xc h16 _ HNA.out (HT.out.keep HB3.out)).mono ?_; rintro e w4 ⟨s, rfl, hs, hb4⟩; have HS := Lib.hid hs; have HS16 := Lib.hid (lt16N h16 hs.1); have HB4 := Lib.hid (HB3.out.trans (hb4.mono HB3.out.size)); clear hs hb4)
    | (go_at_call 89; refine (netsOf_any _ g _ (HG.out.below HB2.out) HOK.out).mono ?_; rintro e w3 ⟨x, rfl, ho, hb3⟩; have HNA := Lib.hid (neOfF HOK.out ho); obtain ⟨xp, xc, rfl, _⟩ := owns_capL ho; have HB3 := Lib.hid (HB2.out.trans (hb3.mono HB2.out.size)); clear ho hb3)
    | (go_at_call 87; refine (implGraphOk_any _ g _ HG.out).mono ?_; rintro e w2 ⟨he, hb2⟩; rw [HDT.out] at he; subst he; have HB2 := Lib.hid hb2; have c0 := hb2.at' c0; clear hb2))
  go_ret
  exact ⟨_, s, rfl, HS.out, ownsRow_base HO5.out (Nat.le_trans HB0.out.size HZ5.out), HB0.out.trans (HB5.out.mono HB0.out.size)⟩

set_option maxRecDepth 100000 in
set_option maxHeartbeats 2000000 in
theorem implBestClique_yes (v : Value) (g : List (List Int)) (w : World) (hg : Gr w v g) (hok : GOk g) (hT : Tab w) :
    Calls Tryd.prog 18 #[v] w fun e w' => ∃ (u : Value) (s : Nat), e = .returned u ∧ MaxP (StbP (compE (ofG g))) g.length s ∧ w'.ownsRow w.heap.size 2 1 u (bitsOf s).length ((natInts (bitsOf s)).map (Value.int .i64)) ∧ Below w.heap.size w w' := by
  have hg0 := hg
  obtain ⟨u, rfl, hr⟩ := hg
  obtain ⟨p, c, rfl, _⟩ := hr.shape
  obtain ⟨W0, hW0⟩ : ∃ W0, W0 = w.alloc (.cells #[.slice p g.length c] 29) := ⟨_, rfl⟩
  have hb0 : Below w.heap.size w W0 := by rw [hW0]; exact below_alloc _ _
  have HB0 := Lib.hid hb0
  have HBG : Hid (Box W0 w.heap.size 29 (.slice p g.length c)) := Lib.hid (by rw [hW0]; exact Box.new _ _ _)
  have HG := Lib.hid (hg0.below hb0)
  have HT := Lib.hid (hT.keep hb0)
  have HOK := Lib.hid hok
  have HDT := Lib.hid (dec_true hok)
  have h16 := hok.le
  have c0 := HBG.out.cell
  clear hr hg0 hb0 hok hT
  go_enter Tryd.func18, Tryd.ntmps18
  go_upto_region 1 with fail
  rw [← hW0]
  clear hW0
  go_wp2_with (first
    | (go_at_call 90; refine (numbers_any _ s rfl (by have := HS16.out; omega) _ (HT.out.keep HB4.out)).mono ?_; rintro e w5 ⟨rv, rfl, ho5, hb5⟩; have HO5 := Lib.hid ho5; have HB5 := Lib.hid (HB4.out.trans (hb5.mono HB4.out.size)); have HZ5 := Lib.hid HB4.out.size; clear ho5 hb5)
    | (go_at_call 88; refine (bestStable_any g.length (compE (ofG g)) yp yc h16 _ HNC.out (HT.out.keep HBC.out)).mono ?_; rintro e w4 ⟨s, rfl, hs, hb4⟩; have HS := Lib.hid hs; have HS16 := Lib.hid (lt16N h16 hs.1); have HB4 := Lib.hid (HBC.out.trans (hb4.mono HBC.out.size)); clear hs hb4)
    | (go_at_call 94; refine (complement_any _ _ _ _ _ HNA.out).mono ?_; rintro e wc ⟨y, rfl, ho4, hb4⟩; have HNC := Lib.hid (ne_ind h16 ho4); have HBC := Lib.hid (HB3.out.trans (hb4.mono HB3.out.size)); obtain ⟨yp, yc, rfl, _⟩ := owns_capL ho4; clear ho4 hb4)
    | (go_at_call 89; refine (netsOf_any _ g _ (HG.out.below HB2.out) HOK.out).mono ?_; rintro e w3 ⟨x, rfl, ho, hb3⟩; have HNA := Lib.hid (neOfF HOK.out ho); obtain ⟨xp, xc, rfl, _⟩ := owns_capL ho; have HB3 := Lib.hid (HB2.out.trans (hb3.mono HB2.out.size)); clear ho hb3)
    | (go_at_call 87; refine (implGraphOk_any _ g _ HG.out).mono ?_; rintro e w2 ⟨he, hb2⟩; rw [HDT.out] at he; subst he; have HB2 := Lib.hid hb2; have c0 := hb2.at' c0; clear hb2))
  go_ret
  exact ⟨_, s, rfl, HS.out, ownsRow_base HO5.out (Nat.le_trans HB0.out.size HZ5.out), HB0.out.trans (HB5.out.mono HB0.out.size)⟩

theorem cvr_all {n : Nat} (hn : n ≤ 16) (E : Nat → Nat → Bool) : CvrP E n (coN n 0) := by
  show StbP E (coN n (coN n 0))
  rw [coN_co hn (Nat.two_pow_pos _)]
  exact sv_zero E
set_option maxRecDepth 100000 in
set_option maxHeartbeats 2000000 in
theorem implLeastCover_yes (v : Value) (g : List (List Int)) (w : World) (hg : Gr w v g) (hok : GOk g) (hT : Tab w) :
    Calls Tryd.prog 17 #[v] w fun e w' => ∃ (u : Value) (s : Nat), e = .returned u ∧ LeastP (CvrP (ofG g) g.length) g.length s ∧ w'.ownsRow w.heap.size 2 1 u (bitsOf s).length ((natInts (bitsOf s)).map (Value.int .i64)) ∧ Below w.heap.size w w' := by
  have hg0 := hg
  obtain ⟨u, rfl, hr⟩ := hg
  obtain ⟨p, c, rfl, _⟩ := hr.shape
  obtain ⟨W0, hW0⟩ : ∃ W0, W0 = w.alloc (.cells #[.slice p g.length c] 29) := ⟨_, rfl⟩
  have hb0 : Below w.heap.size w W0 := by rw [hW0]; exact below_alloc _ _
  have HB0 := Lib.hid hb0
  have HBG : Hid (Box W0 w.heap.size 29 (.slice p g.length c)) := Lib.hid (by rw [hW0]; exact Box.new _ _ _)
  have HG := Lib.hid (hg0.below hb0)
  have HT := Lib.hid (hT.keep hb0)
  have HOK := Lib.hid hok
  have HDT := Lib.hid (dec_true hok)
  have h16 := hok.le
  have c0 := HBG.out.cell
  clear hr hg0 hb0 hok hT
  go_enter Tryd.func17, Tryd.ntmps17
  go_upto_region 1 with fail
  rw [← hW0]
  clear hW0
  go_upto_region 4 with (first
    | (go_at_call 89; refine (netsOf_any _ g _ (HG.out.below HB2.out) HOK.out).mono ?_; rintro e w3 ⟨x, rfl, ho, hb3⟩; have HNA := Lib.hid (neOfF HOK.out ho); obtain ⟨xp, xc, rfl, _⟩ := owns_capL ho; have HB3 := Lib.hid (HB2.out.trans (hb3.mono HB2.out.size)); clear ho hb3)
    | (go_at_call 87; refine (implGraphOk_any _ g _ HG.out).mono ?_; rintro e w2 ⟨he, hb2⟩; rw [HDT.out] at he; subst he; have HB2 := Lib.hid hb2; have c0 := hb2.at' c0; clear hb2))
  obtain ⟨w4, hw4⟩ : ∃ w4, w4 = w3.alloc (.cells #[.slice xp g.length xc] 73) := ⟨_, rfl⟩
  rw [← hw4]
  have hb34 : Below w3.heap.size w3 w4 := by rw [hw4]; exact below_alloc _ _
  have HB4 := Lib.hid (HB3.out.trans (hb34.mono HB3.out.size))
  have HBS : Hid (SvBase w4 g.length (ofG g) xp xc w3.heap.size) := Lib.hid ⟨h16, by rw [hw4]; exact Box.new _ _ _, HNA.out.next hb34, HT.out.keep HB4.out⟩
  have c4 := HBS.out.box.cell
  clear hw4 hb34 c0
  go_wp2_with (first
    | (go_at_call 90; refine (numbers_any _ s rfl (by have := HS16.out; omega) _ (HT.out.keep HB5.out)).mono ?_; rintro e w6 ⟨rv, rfl, ho5, hb5⟩; have HO6 := Lib.hid ho5; have HB6 := Lib.hid (HB5.out.trans (hb5.mono HB5.out.size)); have HZ6 := Lib.hid HB5.out.size; clear ho5 hb5)
    | (go_at_call 91; refine (smallestLc_any g.length (ofG g) xp xc _ _ HBS.out).mono ?_; rintro e w5 ⟨z, rfl, hz, _, hb5⟩; (obtain ⟨s, rfl, hs⟩ : ∃ s : Nat, z = s ∧ LeastP (CvrP (ofG g) g.length) g.length s := (by rcases hz with h | h; exact h; exact absurd (cvr_all h16 _) (h _ (coN_lt h16 (by decide))))); have HS := Lib.hid hs; have HS16 := Lib.hid (lt16N h16 hs.1); have HB5 := Lib.hid (HB4.out.trans (hb5.mono HB4.out.size)); clear hs hz hb5))
  go_ret
  exact ⟨_, s, rfl, HS.out, ownsRow_base HO6.out (Nat.le_trans HB0.out.size HZ6.out), HB0.out.trans (HB6.out.mono HB0.out.size)⟩

set_option maxRecDepth 100000 in
set_option maxHeartbeats 2000000 in
theorem implStableIn_yes (v lv : Value) (g : List (List Int)) (s : Nat) (hs : s < 2 ^ g.length) (w : World) (hg : Gr w v g) (hok : GOk g) (hn : Nums w 2 .i64 lv (natInts (bitsOf s))) (hT : Tab w) :
    Calls Tryd.prog 19 #[v, lv] w fun e w' => e = .returned (.bool (dec (StbP (ofG g) s))) ∧ Below w.heap.size w w' := by
  have hg0 := hg
  obtain ⟨u, rfl, hr⟩ := hg
  obtain ⟨p, c, rfl, _⟩ := hr.shape
  obtain ⟨lp, lc, rfl, _⟩ := id hn.shape
  obtain ⟨W0, hW0⟩ : ∃ W0, W0 = w.alloc (.cells #[.slice p g.length c] 29) := ⟨_, rfl⟩
  have hb0 : Below w.heap.size w W0 := by rw [hW0]; exact below_alloc _ _
  have HBX : Hid (Box W0 w.heap.size 29 (.slice p g.length c)) := Lib.hid (by rw [hW0]; exact Box.new _ _ _)
  have HG := Lib.hid (hg0.below hb0)
  have HN := Lib.hid (hn.below hb0)
  have HB0 := Lib.hid hb0
  have HT := Lib.hid (hT.keep hb0)
  have c0 := HBX.out.cell
  have h16 := hok.le
  have s16 := lt16N h16 hs
  have HSET : Hid (SetIn g.length (natInts (bitsOf s))) := Lib.hid (set_nat (bitsOf_rising s) fun x hx => bit_ltN hs ((mem_left s16).1 hx))
  have HD := Lib.hid (dec_true (show GOk g ∧ SetIn g.length (natInts (bitsOf s)) from ⟨hok, HSET.out⟩))
  have HIN : Hid (∀ x ∈ natInts (bitsOf s), 0 ≤ x ∧ x < 16) := Lib.hid fun x hx => by have := HSET.out.1 x hx; omega
  have HMB : Hid (mask (natInts (bitsOf s)) = s) := Lib.hid (mask_bitsOf s16)
  have HOK := Lib.hid hok
  have STB : Hid (∀ (wz : World) (q : Option Addr) (d : Nat), NE wz (.slice q g.length d) g.length (ofG g) → Tab wz → Calls Tryd.prog 96 #[.slice q g.length d, .int .u32 (s : Int)] wz fun e w' => e = .returned (.bool (dec (StbP (ofG g) s))) ∧ Below wz.heap.size wz w') := Lib.hid fun wz q d h ht =>
    isStable_any (.slice q g.length d) _ g.length (ofG g) s rfl s16 (fun i hi => bit_ltN hs hi) wz h ht
  clear hr hg0 hn hb0 hT hok hs
  go_enter Tryd.func19, Tryd.ntmps19
  go_upto_region 1 with fail
  rw [← hW0]
  clear hW0
  go_wp2_with (first
    | (go_at_call 96; refine (STB.out _ _ _ HNA.out (HT.out.keep HB4.out)).mono ?_; rintro e w6 ⟨rfl, hb6⟩)
    | (have X := HB4; go_at_call 97; refine (maskOf_any _ _ HIN.out _ (HN.out.below HB4.out)).mono ?_; rintro e w5 ⟨he, rfl⟩; rw [HMB.out] at he; subst he)
    | (have X := HB3; go_at_call 89; refine (netsOf_any _ g _ (HG.out.below HB3.out) HOK.out).mono ?_; rintro e w4 ⟨x, rfl, ho, hb4⟩; have HNA := Lib.hid (neOfF HOK.out ho); obtain ⟨xp, xc, rfl, _⟩ := owns_capL ho; have HB4 := Lib.hid (HB3.out.trans (hb4.mono HB3.out.size)); clear ho hb4)
    | (go_at_call 95; refine (implSetOk_any _ _ g _ (by omega) _ HG.out HN.out).mono ?_; rintro e w3 ⟨he, hb3⟩; rw [HD.out] at he; subst he; have HB3 := Lib.hid hb3; have e0 := hb3.at' c0))
  go_ret
  exact ⟨rfl, HB0.out.trans ((HB4.out.trans (hb6.mono HB4.out.size)).mono HB0.out.size)⟩

set_option maxRecDepth 100000 in
set_option maxHeartbeats 2000000 in
theorem implCoverIn_yes (v lv : Value) (g : List (List Int)) (s : Nat) (hs : s < 2 ^ g.length) (w : World) (hg : Gr w v g) (hok : GOk g) (hn : Nums w 2 .i64 lv (natInts (bitsOf s))) (hT : Tab w) :
    Calls Tryd.prog 20 #[v, lv] w fun e w' => e = .returned (.bool (dec (CvrP (ofG g) g.length s))) ∧ Below w.heap.size w w' := by
  have hg0 := hg
  obtain ⟨u, rfl, hr⟩ := hg
  obtain ⟨p, c, rfl, _⟩ := hr.shape
  obtain ⟨lp, lc, rfl, _⟩ := id hn.shape
  obtain ⟨W0, hW0⟩ : ∃ W0, W0 = w.alloc (.cells #[.slice p g.length c] 29) := ⟨_, rfl⟩
  have hb0 : Below w.heap.size w W0 := by rw [hW0]; exact below_alloc _ _
  have HBX : Hid (Box W0 w.heap.size 29 (.slice p g.length c)) := Lib.hid (by rw [hW0]; exact Box.new _ _ _)
  have HG := Lib.hid (hg0.below hb0)
  have HN := Lib.hid (hn.below hb0)
  have HB0 := Lib.hid hb0
  have HT := Lib.hid (hT.keep hb0)
  have c0 := HBX.out.cell
  have h16 := hok.le
  have s16 := lt16N h16 hs
  have HSET : Hid (SetIn g.length (natInts (bitsOf s))) := Lib.hid (set_nat (bitsOf_rising s) fun x hx => bit_ltN hs ((mem_left s16).1 hx))
  have HD := Lib.hid (dec_true (show GOk g ∧ SetIn g.length (natInts (bitsOf s)) from ⟨hok, HSET.out⟩))
  have HIN : Hid (∀ x ∈ natInts (bitsOf s), 0 ≤ x ∧ x < 16) := Lib.hid fun x hx => by have := HSET.out.1 x hx; omega
  have HMB : Hid (mask (natInts (bitsOf s)) = s) := Lib.hid (mask_bitsOf s16)
  have HOK := Lib.hid hok
  have STB : Hid (∀ (wz : World) (q : Option Addr) (d : Nat), NE wz (.slice q g.length d) g.length (ofG g) → Tab wz → Calls Tryd.prog 93 #[.slice q g.length d, .int .u32 (s : Int)] wz fun e w' => e = .returned (.bool (dec (CvrP (ofG g) g.length s))) ∧ Below wz.heap.size wz w') := Lib.hid fun wz q d h ht =>
    isCover_any q d g.length _ (ofG g) s rfl s16 h16 wz h ht
  clear hr hg0 hn hb0 hT hok hs
  go_enter Tryd.func20, Tryd.ntmps20
  go_upto_region 1 with fail
  rw [← hW0]
  clear hW0
  go_wp2_with (first
    | (go_at_call 93; refine (STB.out _ _ _ HNA.out (HT.out.keep HB4.out)).mono ?_; rintro e w6 ⟨rfl, hb6⟩)
    | (have X := HB4; go_at_call 97; refine (maskOf_any _ _ HIN.out _ (HN.out.below HB4.out)).mono ?_; rintro e w5 ⟨he, rfl⟩; rw [HMB.out] at he; subst he)
    | (have X := HB3; go_at_call 89; refine (netsOf_any _ g _ (HG.out.below HB3.out) HOK.out).mono ?_; rintro e w4 ⟨x, rfl, ho, hb4⟩; have HNA := Lib.hid (neOfF HOK.out ho); obtain ⟨xp, xc, rfl, _⟩ := owns_capL ho; have HB4 := Lib.hid (HB3.out.trans (hb4.mono HB3.out.size)); clear ho hb4)
    | (go_at_call 95; refine (implSetOk_any _ _ g _ (by omega) _ HG.out HN.out).mono ?_; rintro e w3 ⟨he, hb3⟩; rw [HD.out] at he; subst he; have HB3 := Lib.hid hb3; have e0 := hb3.at' c0))
  go_ret
  exact ⟨rfl, HB0.out.trans ((HB4.out.trans (hb6.mono HB4.out.size)).mono HB0.out.size)⟩

end Go.Proofs.YtkppbmfliejnmaaDoor

/- Walks: size (of sets of sixteen), whether edges are left, canTrail (the program's). -/
namespace Go.Proofs.YtkppbmfliejnmaaDoor
open Go.RowKit

theorem pop8_bitsT : ∀ n : Fin 256, Lib.pop8 (n.val : Int) = ((bitsOf n.val).length : Int) := by decide +kernel
theorem bits_count (s : Nat) : (bitsOf s).length = (List.range 32).countP fun i => s.testBit i := by
  unfold bitsOf
  rw [List.countP_eq_length_filter]
theorem bits_split (s : Nat) (hs : s < 65536) : (bitsOf s).length = (bitsOf (s / 256)).length + (bitsOf (s % 256)).length := by
  rw [bits_count, bits_count, bits_count]
  have e1 : List.range 32 = List.range 8 ++ (List.range 24).map (8 + ·) := by decide
  have e2 : List.range 32 = List.range 24 ++ (List.range 8).map (24 + ·) := by decide
  have h1 : (List.range 32).countP (fun i => (s % 256).testBit i) = (List.range 8).countP fun i => s.testBit i := by
    rw [e1, List.countP_append, List.countP_map]
    have a : (List.range 8).countP (fun i => (s % 256).testBit i) = (List.range 8).countP fun i => s.testBit i := List.countP_congr fun i hi => by
      have := List.mem_range.1 hi
      rw [show 256 = 2 ^ 8 by decide, Nat.testBit_mod_two_pow]
      simp [this]
    have b : (List.range 24).countP ((fun i => (s % 256).testBit i) ∘ (8 + ·)) = 0 := List.countP_eq_zero.2 fun i _ => by
      simp only [Function.comp]
      rw [show 256 = 2 ^ 8 by decide, Nat.testBit_mod_two_pow]
      simp
      intro h
      omega
    rw [a, b, Nat.add_zero]
  have h2 : (List.range 32).countP (fun i => (s / 256).testBit i) = (List.range 24).countP fun i => s.testBit (8 + i) := by
    rw [e2, List.countP_append, List.countP_map]
    have a : (List.range 24).countP (fun i => (s / 256).testBit i) = (List.range 24).countP fun i => s.testBit (8 + i) := List.countP_congr fun i _ => by
      rw [show 256 = 2 ^ 8 by decide, Nat.testBit_div_two_pow, Nat.add_comm]
    have b : (List.range 8).countP ((fun i => (s / 256).testBit i) ∘ (24 + ·)) = 0 := List.countP_eq_zero.2 fun i _ => by
      simp only [Function.comp]
      have : (s / 256).testBit (24 + i) = false := Nat.testBit_lt_two_pow (Nat.lt_of_lt_of_le (show s / 256 < 2 ^ 24 by omega) (Nat.pow_le_pow_right (by decide) (by omega)))
      simp [this]
    rw [a, b, Nat.add_zero]
  rw [h1, h2, e1, List.countP_append, List.countP_map, Nat.add_comm]
  rfl

set_option maxRecDepth 100000 in
set_option maxHeartbeats 1000000 in
theorem ones16_any (s : Nat) (hs : s < 65536) (w : World) :
    Calls Tryd.prog 233 #[.int .u32 s] w fun e w' => e = .returned (.int .i64 (bitsOf s).length) ∧ ∃ q, w' = w.drewN q := by
  obtain ⟨q, hq⟩ : ∃ q, q = s / 256 := ⟨_, rfl⟩
  obtain ⟨r, hr⟩ : ∃ r, r = s % 256 := ⟨_, rfl⟩
  have h24 : (s : Int) / 16777216 = 0 := by omega
  have h16 : (s : Int) / 65536 = 0 := by omega
  have h8 : (s : Int) / 256 = (q : Int) := by omega
  have k24 : (s : Int) / 2 ^ 24 = 0 := by omega
  have k16 : (s : Int) / 2 ^ 16 = 0 := by omega
  have k8 : (s : Int) / 2 ^ 8 = (q : Int) := by omega
  have a0 : bits BinOp.and IntKind.u32 0 255 = 0 := by decide
  have a255 : bits BinOp.and IntKind.u32 (s : Int) 255 = (r : Int) := by
    have e := u32_and_nat s 255 (by omega) (by decide)
    have e2 : s &&& 255 = r := by
      have := Nat.and_two_pow_sub_one_eq_mod s 8
      rw [show (2 ^ 8 - 1 : Nat) = 255 by decide] at this
      omega
    rw [e2] at e
    exact e
  have aq : bits BinOp.and IntKind.u32 (q : Int) 255 = (q : Int) := by
    have e := u32_and_nat q 255 (by omega) (by decide)
    have e2 : q &&& 255 = q := by
      have := Nat.and_two_pow_sub_one_eq_mod q 8
      rw [show (2 ^ 8 - 1 : Nat) = 255 by decide] at this
      omega
    rw [e2] at e
    exact e
  have HH : Hid ((Lib.pop8 0 + Lib.pop8 0 + Lib.pop8 (q : Int) + Lib.pop8 (r : Int)) % 256 = ((bitsOf s).length : Int)) := Lib.hid (by
    have e0 : Lib.pop8 0 = 0 := by decide +kernel
    have e1 := pop8_bitsT ⟨q, by omega⟩
    have e2 := pop8_bitsT ⟨r, by omega⟩
    have e3 := bits_split s hs
    have e4 := bitsOf_length s
    rw [← hq, ← hr] at e3
    simp only at e1 e2
    rw [e0, e1, e2]
    omega)
  have i0 : (0 : Int) ≤ (r : Int) := by omega
  have i1 : (r : Int) ≤ 255 := by omega
  have j0 : (0 : Int) ≤ (q : Int) := by omega
  have j1 : (q : Int) ≤ 255 := by omega
  clear hq hr
  go_enter Tryd.func233, Tryd.ntmps233
  go_wp2
  go_quiet (fail)
  go_wp2
  go_ret
  exact ⟨by rw [← HH.out]; rfl, _, rfl⟩

set_option maxHeartbeats 400000 in
theorem size16_any (z : Int) (s : Nat) (hz : z = s) (hs : s < 65536) (w : World) :
    Calls Tryd.prog 191 #[.int .u32 z] w fun e w' => e = .returned (.int .i64 (bitsOf s).length) ∧ ∃ q, w' = w.drewN q := by
  subst hz
  go_enter Tryd.func191, Tryd.ntmps191
  go_wp2_with (go_at_call 233; refine (ones16_any s hs _).mono ?_; rintro e w2 ⟨rfl, q, rfl⟩)
  go_ret
  exact ⟨rfl, _, rfl⟩

theorem decide_decT {p q : Prop} [Decidable p] (h : p ↔ q) : decide p = dec q := by
  by_cases k : q
  · rw [dec_true k]; simpa using h.2 k
  · rw [dec_false k]; simpa using fun x => k (h.1 x)
/-! ### Edges left -/
theorem bits0_deg {n : Nat} (hn : n ≤ 16) {E : Nat → Nat → Bool} {v s : Nat} (hs : s < 65536) (hb : ∀ j, s.testBit j = (decide (j < n) && E v j)) : s = 0 ↔ degN n E v = 0 := by
  rw [← bits_deg hn hs hb]
  constructor
  · intro h; subst h; rfl
  · intro h
    have h1 : bitsOf s = [] := List.eq_nil_of_length_eq_zero h
    rw [← mask_bitsOf hs, h1]
    rfl

end Go.Proofs.YtkppbmfliejnmaaDoor

/- Walks: missing, CliqueOk, CliqueIn of the program; w6Less. -/
namespace Go.Proofs.YtkppbmfliejnmaaDoor
open Go.RowKit

theorem sumS_one (f : Nat → Nat) : ∀ (l : List Nat), ∀ u ∈ l, f u ≤ (l.map f).sum
  | [], u, h => by cases h
  | x :: l, u, h => by
    rw [List.map_cons, List.sum_cons]
    rcases List.mem_cons.1 h with rfl | h
    · omega
    · have := sumS_one f l u h
      omega
theorem sumS_two (f : Nat → Nat) : ∀ (l : List Nat), ∀ u ∈ l, ∀ v ∈ l, u ≠ v → f u + f v ≤ (l.map f).sum
  | [], u, h, _, _, _ => by cases h
  | x :: l, u, hu, v, hv, huv => by
    rw [List.map_cons, List.sum_cons]
    rcases List.mem_cons.1 hu with e1 | h1
    · rcases List.mem_cons.1 hv with e2 | h2
      · exact absurd (e1.trans e2.symm) huv
      · have := sumS_one f l v h2
        rw [e1]
        omega
    · rcases List.mem_cons.1 hv with e2 | h2
      · have := sumS_one f l u h1
        rw [e2]
        omega
      · have := sumS_two f l u h1 v h2 huv
        omega
theorem sumS_le (f : Nat → Nat) (b : Nat) (h : ∀ u, f u ≤ b) : ∀ (l : List Nat), (l.map f).sum ≤ l.length * b
  | [] => by simp
  | x :: l => by
    rw [List.map_cons, List.sum_cons, List.length_cons, Nat.succ_mul]
    have := sumS_le f b h l
    have := h x
    omega
/-- Any two of a set are neighbours. -/
def ClqP (E : Nat → Nat → Bool) (s : Nat) : Prop := ∀ u v, s.testBit u = true → s.testBit v = true → u ≠ v → E u v = true
/-- How many of a set are not beside u. -/
def misN (E : Nat → Nat → Bool) (s u : Nat) : Nat := ((bitsOf s).filter fun x => !E u x && !(x == u)).length
theorem misN_le (E : Nat → Nat → Bool) (s u : Nat) : misN E s u ≤ 32 := Nat.le_trans (List.length_filter_le _ _) (bitsOf_length s)
theorem mis_sum {E : Nat → Nat → Bool} {s : Nat} (hs : s < 65536) (hE : ∀ a b, E a b = E b a) : ((bitsOf s).map (misN E s)).sum / 2 = 0 ↔ ClqP E s := by
  constructor
  · intro h u v hu hv huv
    cases e : E u v
    · exfalso
      have h1 : 1 ≤ misN E s u := List.length_pos_of_mem (a := v) (List.mem_filter.2 ⟨(mem_left hs).2 hv, by simp [e, Ne.symm huv]⟩)
      have h2 : 1 ≤ misN E s v := List.length_pos_of_mem (a := u) (List.mem_filter.2 ⟨(mem_left hs).2 hu, by rw [hE, e]; simp [huv]⟩)
      have h3 := sumS_two (misN E s) (bitsOf s) u ((mem_left hs).2 hu) v ((mem_left hs).2 hv) huv
      omega
    · rfl
  · intro h
    have h0 : ∀ l : List Nat, (∀ x ∈ l, x ∈ bitsOf s) → (l.map (misN E s)).sum = 0 := fun l => by
      induction l with
      | nil => intro _; rfl
      | cons x l ih =>
        intro hl
        rw [List.map_cons, List.sum_cons, ih fun y hy => hl y (List.mem_cons_of_mem _ hy)]
        have hx := (mem_left hs).1 (hl x (by simp))
        have : ((bitsOf s).filter fun y => !E x y && !(y == x)) = [] := List.filter_eq_nil_iff.2 fun y hy => by
          by_cases e : y = x
          · simp [e]
          · rw [h x y hx ((mem_left hs).1 hy) (Ne.symm e)]; simp
        unfold misN
        rw [this]; rfl
    rw [h0 _ fun x hx => hx]
theorem mis_bits {E : Nat → Nat → Bool} {s a u n : Nat} (hs : s < 65536) (ha : a < 65536) (hu : u < 16) (hsn : ∀ i, s.testBit i = true → i < n) (hab : ∀ j, a.testBit j = (decide (j < n) && E u j)) : (bitsOf (sub (sub s a) (2 ^ u))).length = misN E s u := by
  have h1 := sub_lt16 s a hs
  have h2 := sub_lt16 (sub s a) (2 ^ u) h1
  have hp := pow_lt16 u hu
  unfold misN
  congr 1
  refine rising_ext _ _ (bitsOf_rising _) (List.Pairwise.filter _ (bitsOf_rising _)) fun x => ?_
  rw [mem_left h2, testBit_sub _ _ (by omega) (by omega), testBit_sub _ _ (by omega) (by omega), hab, Nat.testBit_two_pow, List.mem_filter, mem_left hs]
  constructor
  · intro h
    simp only [Bool.and_eq_true, Bool.not_eq_true', decide_eq_false_iff_not, Bool.and_eq_false_iff] at h
    obtain ⟨⟨a1, a2⟩, a3⟩ := h
    refine ⟨a1, ?_⟩
    have e1 : E u x = false := by
      rcases a2 with a2 | a2
      · simp [hsn x a1] at a2
      · exact a2
    simp [e1]
    omega
  · rintro ⟨h, h2⟩
    simp only [Bool.and_eq_true, Bool.not_eq_true', beq_eq_false_iff_ne] at h2
    simp [h, h2.1]
    exact fun e => h2.2 e.symm
set_option maxRecDepth 100000 in
set_option maxHeartbeats 4000000 in
theorem missing_any (xp : Option Addr) (xc n : Nat) (y : Int) (E : Nat → Nat → Bool) (s : Nat) (hy : y = s) (hs : s < 65536) (hsn : ∀ i, s.testBit i = true → i < n) (hE : ∀ a b, E a b = E b a) (w : World) (hx : NE w (.slice xp n xc) n E) (hT : Tab w) :
    Calls Tryd.prog 184 #[.slice xp n xc, .int .u32 y] w fun e w' => ∃ z : Nat, e = .returned (.int .i64 (z : Int)) ∧ (z = 0 ↔ ClqP E s) ∧ Below w.heap.size w w' := by
  subst hy
  have HX := Lib.hid hx
  have HT := Lib.hid hT
  have HSN := Lib.hid hsn
  have n16 := hx.le
  obtain ⟨l, hl⟩ : ∃ l, l = bitsOf s := ⟨_, rfl⟩
  have hl32 : l.length ≤ 32 := by rw [hl]; exact bitsOf_length s
  have HLE := Lib.hid hl
  have HIFF : Hid ((l.map (misN E s)).sum / 2 = 0 ↔ ClqP E s) := Lib.hid (by rw [hl]; exact mis_sum hs hE)
  have HLN : Hid (∀ v ∈ l, v < n) := Lib.hid fun v hv => hsn v (by rw [hl] at hv; exact (mem_left hs).1 hv)
  have HSUM : Hid (∀ k, ((l.take k).map (misN E s)).sum ≤ 1024) := Lib.hid fun k => by
    have h1 := sumS_le (misN E s) 32 (misN_le E s) (l.take k)
    have h2 := List.length_take_le k l
    have h3 : (l.take k).length ≤ 32 := by rw [List.length_take]; omega
    have := Nat.mul_le_mul_right 32 h3
    omega
  clear hx hT hsn hl
  go_enter Tryd.func184, Tryd.ntmps184
  go_wp2_with (go_at_call 180; refine (list_any _ s rfl (by omega) _ HT.out).mono ?_; rintro e w3 ⟨lv, rfl, ho3, hb3⟩; rw [← HLE.out] at ho3; have HN3 := Lib.hid (numsInt_of _ _ _ _ ho3 (by omega)); have HB3 := Lib.hid hb3; obtain ⟨lp, lc, rfl, _⟩ := owns_capL ho3; clear ho3 hb3)
  go_loopw [5, 11] (fun m t wr => ∃ (j k : Nat), k ≤ l.length ∧ t = .int .i64 (k : Int) ∧ m = .int .i64 (j : Int) ∧ Hid (j = ((l.take k).map (misN E s)).sum) ∧ Hid (Below w.heap.size w wr ∧ Nums wr 3 .i64 (.slice lp l.length lc) (natInts l))) (fun _ t _ => l.length - (intOf t).toNat)
  case atStart => exact ⟨0, 0, Nat.zero_le _, rfl, rfl, Lib.hid (by simp), Lib.hid ⟨HB3.out, HN3.out⟩⟩
  case round =>
    clear HN3 HB3
    obtain ⟨j, k, hk, rfl, rfl, HJ, HW⟩ := hrel
    have hj : j ≤ 1024 := by rw [HJ.out]; exact HSUM.out k
    by_cases hlt : k < l.length
    · obtain ⟨qb, qo, rfl, hq⟩ := HW.out.2.get (k := k) (by rw [natInts_length]; exact hlt)
      obtain ⟨u, hu⟩ : ∃ u, u = l[k] := ⟨_, rfl⟩
      rw [natInts_atS hlt, ← hu] at hq
      have hun : u < n := by rw [hu]; exact HLN.out _ (List.getElem_mem hlt)
      obtain ⟨xb, xo, a, rfl, hca, ha16, hab⟩ := (HX.out.next HW.out.1).get hun
      have hmis := mis_bits hs ha16 (by omega) HSN.out hab
      obtain ⟨d, hd⟩ : ∃ d, d = sub s a := ⟨_, rfl⟩
      have hd16 : d < 65536 := by rw [hd]; exact sub_lt16 _ _ hs
      have PONE : Hid (∀ w, Calls Tryd.prog 156 #[.int .i64 (u : Int)] w fun e w' => e = .returned (.int .u32 ((2 ^ u : Nat) : Int)) ∧ w = w') := Lib.hid (fun w => one_any (u : Int) u rfl (by omega) w)
      obtain ⟨pv, hpv⟩ : ∃ pv, pv = 2 ^ u := ⟨_, rfl⟩
      have hp16 : pv < 65536 := by rw [hpv]; exact pow_lt16 u (by omega)
      rw [← hd, ← hpv] at hmis
      rw [← hpv] at PONE
      obtain ⟨t, ht⟩ : ∃ t, t = sub d pv := ⟨_, rfl⟩
      have ht16 : t < 65536 := by rw [ht]; exact sub_lt16 _ _ hd16
      have hand1 : bits BinOp.andNot IntKind.u32 (s : Int) (a : Int) = (d : Int) := by rw [hd]; exact u32_andNot_nat s a (by omega) (by omega)
      have hand2 : bits BinOp.andNot IntKind.u32 (d : Int) (pv : Int) = (t : Int) := by rw [ht]; exact u32_andNot_nat d pv (by omega) (by omega)
      rw [← ht] at hmis
      obtain ⟨c, hc⟩ : ∃ c, c = (bitsOf t).length := ⟨_, rfl⟩
      have hc32 : c ≤ 32 := by rw [hc]; exact bitsOf_length t
      have SIZE : Hid (∀ wz, Calls Tryd.prog 191 #[.int .u32 (t : Int)] wz fun e w' => e = .returned (.int .i64 (c : Int)) ∧ ∃ q, w' = wz.drewN q) := Lib.hid fun wz => by rw [hc]; exact size16_any _ t rfl ht16 wz
      have HNEW : Hid (j + c = ((l.take (k + 1)).map (misN E s)).sum) := Lib.hid (by
        rw [take_snoc' l k hlt, List.map_append, List.sum_append, ← HJ.out, ← hu]
        simp
        rw [hc, hmis])
      clear hab hd ht hpv hmis hc hu
      have hwr : IntKind.i64.wrap ((j : Int) + (c : Int)) = ((j + c : Nat) : Int) := by rw [IntKind.wrap_i64]; omega
      go_upto_region 5 with fail
      go_region_held3 (fun w' => w'.cell? ⟨xb, xo + u, none⟩ = some (.int .u32 (a : Int)))
        (first | exact hca | go_keep)
        (first
          | (go_at_call 156; refine (PONE.out _).mono ?_; rintro e w3 ⟨rfl, rfl⟩)
          | (go_at_call 191; refine (SIZE.out _).mono ?_; rintro e w4 ⟨rfl, q, rfl⟩))
      all_goals go_wp2
      all_goals go_roundw
      case rel => exact ⟨j + c, k + 1, by omega, by go_num, by first | rfl | rw [hwr], HNEW, Lib.hid ⟨by first | exact below_dN (below_dN HW.out.1 _) _ | exact below_dN HW.out.1 _, by first | exact (HW.out.2.below (below_dN (Below.refl _ _) _)).below (below_dN (Below.refl _ _) _) | exact HW.out.2.below (below_dN (Below.refl _ _) _)⟩⟩
      case measure => simp [intOf]; omega
    · obtain rfl : k = l.length := by omega
      rw [List.take_length] at HJ
      have hdiv : Int.tdiv (j : Int) 2 = ((j / 2 : Nat) : Int) := rfl
      go_wp2
      go_ret
      exact ⟨j / 2, rfl, by rw [HJ.out]; exact HIFF.out, HW.out.1⟩

set_option maxRecDepth 100000 in
set_option maxHeartbeats 2000000 in
theorem implCliqueOk_yes (v lv : Value) (g : List (List Int)) (s : Nat) (hs : s < 2 ^ g.length) (w : World) (hg : Gr w v g) (hok : GOk g) (hn : Nums w 2 .i64 lv (natInts (bitsOf s))) (hT : Tab w) :
    Calls Tryd.prog 98 #[v, lv] w fun e w' => e = .returned (.bool (dec (ClqP (ofG g) s))) ∧ Below w.heap.size w w' := by
  have hg0 := hg
  obtain ⟨u, rfl, hr⟩ := hg
  obtain ⟨p, c, rfl, _⟩ := hr.shape
  obtain ⟨lp, lc, rfl, _⟩ := id hn.shape
  obtain ⟨W0, hW0⟩ : ∃ W0, W0 = w.alloc (.cells #[.slice p g.length c] 29) := ⟨_, rfl⟩
  have hb0 : Below w.heap.size w W0 := by rw [hW0]; exact below_alloc _ _
  have HBX : Hid (Box W0 w.heap.size 29 (.slice p g.length c)) := Lib.hid (by rw [hW0]; exact Box.new _ _ _)
  have HG := Lib.hid (hg0.below hb0)
  have HN := Lib.hid (hn.below hb0)
  have HB0 := Lib.hid hb0
  have HT := Lib.hid (hT.keep hb0)
  have c0 := HBX.out.cell
  have h16 := hok.le
  have s16 := lt16N h16 hs
  have HSET : Hid (SetIn g.length (natInts (bitsOf s))) := Lib.hid (set_nat (bitsOf_rising s) fun x hx => bit_ltN hs ((mem_left s16).1 hx))
  have HD := Lib.hid (dec_true (show GOk g ∧ SetIn g.length (natInts (bitsOf s)) from ⟨hok, HSET.out⟩))
  have HIN : Hid (∀ x ∈ natInts (bitsOf s), 0 ≤ x ∧ x < 16) := Lib.hid fun x hx => by have := HSET.out.1 x hx; omega
  have HMB : Hid (mask (natInts (bitsOf s)) = s) := Lib.hid (mask_bitsOf s16)
  have HOK := Lib.hid hok
  have MIS : Hid (∀ (wz : World) (q : Option Addr) (d : Nat), NE wz (.slice q g.length d) g.length (ofG g) → Tab wz → Calls Tryd.prog 184 #[.slice q g.length d, .int .u32 (s : Int)] wz fun e w' => ∃ z : Nat, e = .returned (.int .i64 (z : Int)) ∧ (z = 0 ↔ ClqP (ofG g) s) ∧ Below wz.heap.size wz w') := Lib.hid fun wz q d h ht =>
    missing_any q d g.length _ (ofG g) s rfl s16 (fun i hi => bit_ltN hs hi) (ofG_symE hok) wz h ht
  clear hr hg0 hn hb0 hT hok hs
  go_enter Tryd.func98, Tryd.ntmps98
  go_upto_region 1 with fail
  rw [← hW0]
  clear hW0
  go_wp2_with (first
    | (go_at_call 184; refine (MIS.out _ _ _ HNA.out (HT.out.keep HB4.out)).mono ?_; rintro e w6 ⟨z, rfl, hz, hb6⟩; have HZ := Lib.hid hz; clear hz)
    | (have X := HB4; go_at_call 97; refine (maskOf_any _ _ HIN.out _ (HN.out.below HB4.out)).mono ?_; rintro e w5 ⟨he, rfl⟩; rw [HMB.out] at he; subst he)
    | (have X := HB3; go_at_call 89; refine (netsOf_any _ g _ (HG.out.below HB3.out) HOK.out).mono ?_; rintro e w4 ⟨x, rfl, ho, hb4⟩; have HNA := Lib.hid (neOfF HOK.out ho); obtain ⟨xp, xc, rfl, _⟩ := owns_capL ho; have HB4 := Lib.hid (HB3.out.trans (hb4.mono HB3.out.size)); clear ho hb4)
    | (go_at_call 95; refine (implSetOk_any _ _ g _ (by omega) _ HG.out HN.out).mono ?_; rintro e w3 ⟨he, hb3⟩; rw [HD.out] at he; subst he; have HB3 := Lib.hid hb3; have e0 := hb3.at' c0))
  go_ret
  have hfin : ((z : Int) == 0) = dec (ClqP (ofG g) s) := by
    by_cases h : ClqP (ofG g) s
    · rw [dec_true h, HZ.out.2 h]; rfl
    · rw [dec_false h]
      have : z ≠ 0 := fun e => h (HZ.out.1 e)
      simp
      omega
  exact ⟨ret_bool hfin, HB0.out.trans ((HB4.out.trans (hb6.mono HB4.out.size)).mono HB0.out.size)⟩

set_option maxRecDepth 100000 in
set_option maxHeartbeats 1000000 in
theorem implCliqueIn_yes (v lv : Value) (g : List (List Int)) (s : Nat) (hs : s < 2 ^ g.length) (w : World) (hg : Gr w v g) (hok : GOk g) (hn : Nums w 2 .i64 lv (natInts (bitsOf s))) (hT : Tab w) :
    Calls Tryd.prog 22 #[v, lv] w fun e w' => e = .returned (.bool (dec (ClqP (ofG g) s))) ∧ Below w.heap.size w w' := by
  have hg0 := hg
  obtain ⟨u, rfl, hr⟩ := hg
  obtain ⟨p, c, rfl, _⟩ := hr.shape
  obtain ⟨lp, lc, rfl, _⟩ := id hn.shape
  have hb0 := below_alloc w (.cells #[.slice p g.length c] 29)
  have HB0 := Lib.hid hb0
  have CLQ := Lib.hid (implCliqueOk_yes _ _ g s hs _ (hg0.below hb0) hok (hn.below hb0) (hT.keep hb0))
  clear hr hg0 hn hb0 hT hok hs
  go_enter Tryd.func22, Tryd.ntmps22
  go_wp2_with (go_at_call 98; refine CLQ.out.mono ?_; rintro e w3 ⟨rfl, hb3⟩)
  go_ret
  exact ⟨rfl, HB0.out.trans (hb3.mono HB0.out.size)⟩

theorem lex_take {L M : List Nat} {k : Nat} (hl : L.length = M.length) (hk : k < L.length) (h : L.take k = M.take k) (hne : L[k] ≠ M[k]) : lexL L M ↔ L[k] < M[k] := by
  have e1 : L = L.take k ++ L[k] :: L.drop (k + 1) := by simp
  have e2 : M = M.take k ++ M[k] :: M.drop (k + 1) := by simp
  have : lexL (L.take k ++ L[k] :: L.drop (k + 1)) (M.take k ++ M[k] :: M.drop (k + 1)) ↔ L[k] < M[k] := by
    rw [h, lexL_app]
    simp only [lexL]
    constructor
    · rintro (h | ⟨h, _⟩)
      · exact h
      · exact absurd h hne
    · exact .inl
  rw [← e1, ← e2] at this
  exact this
set_option maxRecDepth 100000 in
set_option maxHeartbeats 1000000 in
theorem w6Less_any (u v : Value) (L M : List Nat) (hl : L.length = M.length) (w : World) (hx : Nums w 2 .i64 u (natInts L)) (hy : Nums w 2 .i64 v (natInts M)) :
    Calls Tryd.prog 27 #[u, v] w fun e w' => e = .returned (.bool (dec (lexL L M))) ∧ Below w.heap.size w w' := by
  obtain ⟨p, c, rfl, hp, _, hn, hat⟩ := hx
  obtain ⟨p', c', rfl, hp', _, hn', hat'⟩ := hy
  simp only [natInts_length] at hn hn' ⊢
  rw [← hl] at hn' ⊢
  have Hl := Lib.hid hl
  have HX := Lib.hid hat
  have HY := Lib.hid hat'
  obtain ⟨m, hm⟩ : ∃ m, m = L.length := ⟨_, rfl⟩
  rw [← hm] at hn hn' ⊢
  have HM := Lib.hid hm
  have HM2 : Hid (M.length = m) := Lib.hid (by rw [hm, hl])
  clear hl hat hat' hp hp' hm
  go_enter Tryd.func27, Tryd.ntmps27
  go_wp2
  go_loopw [5] (fun i wr => ∃ k : Nat, k ≤ m ∧ i = .int .i64 k ∧ Hid (L.take k = M.take k) ∧ ∃ q, wr = w.drewN q) (fun i _ => m - (intOf i).toNat)
  case atStart => exact ⟨0, Nat.zero_le _, rfl, Lib.hid (by simp), 0, rfl⟩
  case round =>
    obtain ⟨k, hk, rfl, HEQ, q, rfl⟩ := hrel
    by_cases hlt : k < m
    · have hltL : k < L.length := by rw [← HM.out]; exact hlt
      have hltM : k < M.length := by rw [HM2.out]; exact hlt
      obtain ⟨b, o, rfl, hcell⟩ := HX.out.num (k := k) (by rw [natInts_length]; exact hltL)
      obtain ⟨b', o', rfl, hcell'⟩ := HY.out.num (k := k) (by rw [natInts_length]; exact hltM)
      rw [natInts_atS hltL] at hcell
      rw [natInts_atS hltM] at hcell'
      have hlex : L[k] ≠ M[k] → (lexL L M ↔ L[k] < M[k]) := lex_take Hl.out hltL HEQ.out
      have hstep : L[k] = M[k] → L.take (k + 1) = M.take (k + 1) := fun e => by rw [take_snoc' L k hltL, take_snoc' M k hltM, HEQ.out, e]
      generalize L[k] = x at hcell hlex hstep
      generalize M[k] = y at hcell' hlex hstep
      have e0 : (0 : Int) ≤ (k : Int) := by omega
      have e1 : (k : Int) < (m : Int) := by omega
      by_cases he : x = y
      · have he' : ((x : Int) != (y : Int)) = false := by simp [he]
        have HST := Lib.hid (hstep he)
        clear he hlex hstep hltL hltM
        go_wp2
        go_quiet (fail)
        go_wp2
        go_roundw
        case rel => exact ⟨k + 1, by omega, by go_num, HST, _, rfl⟩
        case measure => simp [intOf]; omega
      · have he' : ((x : Int) != (y : Int)) = true := by simp; omega
        have HLX := Lib.hid (hlex he)
        clear he hlex hstep hltL hltM
        go_wp2
        go_quiet (fail)
        go_wp2
        go_quiet (fail)
        go_wp2
        go_ret
        exact ⟨ret_bool (decide_decS HLX.out.symm), by first | exact below_dN (below_dN (below_dN (Below.refl _ _) _) _) _ | exact below_dN (below_dN (Below.refl _ _) _) _⟩
    · obtain rfl : k = m := by omega
      have HFIN : Hid (¬ lexL L M) := Lib.hid (by
        have h := HEQ.out
        rw [HM.out, List.take_length, ← HM.out, ← HM2.out, List.take_length] at h
        rw [h]
        exact lexL_irrefl M)
      go_wp2
      go_ret
      exact ⟨ret_bool (false_dec HFIN.out), below_dN (Below.refl _ _) _⟩

end Go.Proofs.YtkppbmfliejnmaaDoor
