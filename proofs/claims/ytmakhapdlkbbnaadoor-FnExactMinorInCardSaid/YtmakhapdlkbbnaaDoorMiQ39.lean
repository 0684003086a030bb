/- Walks: the closures with which a least cover is sought. -/
import Derived.Test.YtmakhapdlkbbnaaDoorMiQ28
import Derived.Test.YtmakhapdlkbbnaaDoorMiQ38
namespace Go.Proofs.YtmakhapdlkbbnaaDoor
open Go.RowKit

/-- What stands below the call. -/
structure CvBase (w : World) (n : Nat) (S : List (List Int)) (sp : Option Addr) (sc ba : Nat) : Prop where
  h16 : n ≤ 16
  box : Box w ba 75 (.slice sp S.length sc)
  sl : Sl w 79 (.slice sp S.length sc) S.length ((S.map mask).map u32v)
  rng : ∀ j, j < S.length → ∀ x ∈ row S j, 0 ≤ x ∧ x < 16
  few : S.length ≤ 1000000
theorem CvBase.next {w w' : World} {n : Nat} {S : List (List Int)} {sp : Option Addr} {sc ba : Nat} (h : CvBase w n S sp sc ba) (hb : Below w.heap.size w w') : CvBase w' n S sp sc ba :=
  ⟨h.h16, h.box.keep hb, h.sl.below hb, h.rng, h.few⟩

theorem decide_dec_iff {p q : Prop} [Decidable p] (h : p ↔ q) : decide p = dec q := by
  by_cases k : p
  · rw [dec_true (h.1 k)]; simp [k]
  · rw [dec_false (fun c => k (h.2 c))]; simp [k]
def NoJ (S : List (List Int)) (s j : Nat) : Prop := s &&& mask (row S j) = 0
theorem covN_iff {S : List (List Int)} {s : Nat} (hr : ∀ j, j < S.length → ∀ x ∈ row S j, 0 ≤ x ∧ x < 16) : CovN S s ↔ ∀ j, j < S.length → ¬ NoJ S s j := by
  have key : ∀ j, j < S.length → ∀ i : Nat, (mask (row S j)).testBit i = true ↔ (i : Int) ∈ row S j := fun j hj i => by
    rw [testBit_mask, List.any_eq_true]
    constructor
    · rintro ⟨x, hx, e⟩
      have h1 := (hr j hj x hx).1
      have h2 : x.toNat = i := by simpa using e
      have : (i : Int) = x := by omega
      rw [this]; exact hx
    · intro h
      exact ⟨_, h, by simp⟩
  constructor
  · intro h j hj k
    obtain ⟨i, h1, h2⟩ := h j hj
    exact and_zero_iff.1 k i ⟨h1, (key j hj i).2 h2⟩
  · intro h j hj
    have := mt and_zero_iff.2 (h j hj)
    obtain ⟨i, hi⟩ := Classical.not_forall.1 this
    obtain ⟨h1, h2⟩ := Classical.not_not.1 hi
    exact ⟨i, h1, (key j hj i).1 h2⟩

end Go.Proofs.YtmakhapdlkbbnaaDoor

/- Walks: whether an edge joins two sets of the program's. -/
namespace Go.Proofs.YtmakhapdlkbbnaaDoor
open Go.RowKit

/-- An edge joins two masks. -/
def JnV (E : Nat → Nat → Bool) (t v : Nat) : Prop := ∃ u, t.testBit u = true ∧ E v u = true
def JnM (E : Nat → Nat → Bool) (s t : Nat) : Prop := ∃ v, s.testBit v = true ∧ JnV E t v

theorem natInts_atJ {l : List Nat} {k : Nat} (h : k < l.length) {h' : k < (natInts l).length} : (natInts l)[k] = ((l[k] : Nat) : Int) := by simp [natInts]
/-- What the closure reads. -/
structure JnB (w : World) (n : Nat) (E : Nat → Nat → Bool) (t : Nat) (ba bt : Nat) (xp : Option Addr) (xc : Nat) : Prop where
  boxA : Box w ba 76 (.slice xp n xc)
  ne : NE w (.slice xp n xc) n E
  boxT : Box w bt 79 (.int .u32 (t : Int))
  t16 : t < 65536
  tn : ∀ i, t.testBit i = true → i < n
theorem JnB.next {w w' : World} {n : Nat} {E : Nat → Nat → Bool} {t ba bt : Nat} {xp : Option Addr} {xc : Nat} (h : JnB w n E t ba bt xp xc) (hb : Below w.heap.size w w') : JnB w' n E t ba bt xp xc :=
  ⟨h.boxA.keep hb, h.ne.next hb, h.boxT.keep hb, h.t16, h.tn⟩

set_option maxRecDepth 100000 in
set_option maxHeartbeats 1000000 in
theorem joinV_any (z : Int) (v n : Nat) (E : Nat → Nat → Bool) (t ba bt : Nat) (xp : Option Addr) (xc : Nat) (hz : z = v) (hv : v < n) (w : World) (hJ : JnB w n E t ba bt xp xc) :
    Calls Tryd.prog 201 #[.int .i64 z, .pointer (some ⟨ba, 0, none⟩), .pointer (some ⟨bt, 0, none⟩)] w fun e w' => e = .returned (.bool (dec (JnV E t v))) ∧ Below w.heap.size w w' := by
  subst hz
  have hca := hJ.boxA.cell
  have hct := hJ.boxT.cell
  obtain ⟨nb, no, av, rfl, hcv, ha16, hbit⟩ := hJ.ne.get hv
  have hand := u32_and_nat av t (by omega) (by have := hJ.t16; omega)
  have HD : Hid ((((av &&& t : Nat) : Int) != 0) = dec (JnV E t v)) := Lib.hid (by
    by_cases h : JnV E t v
    · rw [dec_true h]
      obtain ⟨u, h1, h2⟩ := h
      have h3 : av &&& t ≠ 0 := fun h0 => and_zero_iff.1 h0 u ⟨by rw [hbit u, h2]; simp [hJ.tn u h1], h1⟩
      simp
      omega
    · rw [dec_false h]
      have h3 : av &&& t = 0 := and_zero_iff.2 fun u ⟨h1, h2⟩ => h ⟨u, h2, by
        rw [hbit u, Bool.and_eq_true] at h1
        exact h1.2⟩
      rw [h3]; rfl)
  clear hbit hJ
  generalize (av &&& t : Nat) = avt at hand HD
  go_enter Tryd.func201, Tryd.ntmps201
  go_upto_region 1 with fail
  go_region_held3 (fun w' => w'.cell? ⟨ba, 0, none⟩ = some (.slice (some ⟨nb, no, none⟩) n xc) ∧ w'.cell? ⟨bt, 0, none⟩ = some (.int .u32 (t : Int)) ∧ w'.cell? ⟨nb, no + v, none⟩ = some (.int .u32 (av : Int)))
    (first | exact ⟨hca, hct, hcv⟩ | go_keep)
    (fail)
  all_goals go_wp2
  all_goals go_ret
  all_goals exact ⟨ret_bool HD.out, below_dN (Below.refl _ _) _⟩

set_option maxRecDepth 100000 in
set_option maxHeartbeats 2000000 in
theorem indexJn_any (lv : Value) (l : List Nat) (n : Nat) (E : Nat → Nat → Bool) (t ba bt : Nat) (xp : Option Addr) (xc : Nat) (hl : ∀ v ∈ l, v < n) (h32 : l.length ≤ 32) (w : World) (hn : Nums w 3 .i64 lv (natInts l)) (hJ : JnB w n E t ba bt xp xc) :
    Calls Tryd.prog 221 #[lv, .func (.func 201) #[] #[.pointer (some ⟨ba, 0, none⟩), .pointer (some ⟨bt, 0, none⟩)]] w fun e w' =>
      ∃ z : Int, e = .returned (.int .i64 z) ∧ (0 ≤ z ↔ ∃ v ∈ l, JnV E t v) ∧ Below w.heap.size w w' := by
  obtain ⟨lp, lc, rfl, _⟩ := id hn.shape
  have HN := Lib.hid hn
  have HJ := Lib.hid hJ
  have HL := Lib.hid hl
  have hnl := natInts_length l
  rw [hnl] at HN ⊢
  clear hn hJ hl hnl
  go_enter Tryd.func221, Tryd.ntmps221
  go_wp2
  go_loopw [8] (fun i wr => ∃ k : Nat, k ≤ l.length ∧ i = .int .i64 k ∧ Hid (∀ v ∈ l.take k, ¬ JnV E t v) ∧ Below w.heap.size w wr) (fun i _ => l.length - (intOf i).toNat)
  case atStart => exact ⟨0, Nat.zero_le _, rfl, Lib.hid (fun v hv => by simp at hv), Below.refl _ _⟩
  case round =>
    obtain ⟨k, hk, rfl, HNO, hb⟩ := hrel
    have HB := Lib.hid hb
    by_cases hlt : k < l.length
    · obtain ⟨qb, qo, rfl, hq⟩ := (HN.out.below hb).get (k := k) (by rw [natInts_length]; exact hlt)
      obtain ⟨v, hv⟩ : ∃ v, v = l[k] := ⟨_, rfl⟩
      rw [natInts_atJ hlt, ← hv] at hq
      have hvn : v < n := by rw [hv]; exact HL.out _ (List.getElem_mem hlt)
      have HMEM := Lib.hid (show v ∈ l by rw [hv]; exact List.getElem_mem hlt)
      have HTK : Hid (l.take (k + 1) = l.take k ++ [v]) := Lib.hid (by rw [take_snoc' l k hlt, hv])
      clear hv hb
      by_cases hj : JnV E t v
      · have HJV := Lib.hid hj
        have hd := Lib.hid (dec_true hj)
        clear hj
        go_wp2_with (go_at_call 201; refine (joinV_any _ v n E t ba bt xp xc rfl hvn _ (HJ.out.next HB.out)).mono ?_; rintro e w2 ⟨he, hb2⟩; rw [hd.out] at he; subst he)
        go_ret
        exact ⟨k, rfl, ⟨fun _ => ⟨v, HMEM.out, HJV.out⟩, fun _ => by omega⟩, HB.out.trans (hb2.mono HB.out.size)⟩
      · have HJV := Lib.hid hj
        have hd := Lib.hid (dec_false hj)
        clear hj
        go_wp2_with (go_at_call 201; refine (joinV_any _ v n E t ba bt xp xc rfl hvn _ (HJ.out.next HB.out)).mono ?_; rintro e w2 ⟨he, hb2⟩; rw [hd.out] at he; subst he)
        go_roundw
        case rel => exact ⟨k + 1, by omega, by go_num, Lib.hid (fun x hx => by
          rw [HTK.out] at hx
          rcases List.mem_append.1 hx with h | h
          · exact HNO.out x h
          · obtain rfl : x = v := by simpa using h
            exact HJV.out), HB.out.trans (hb2.mono HB.out.size)⟩
        case measure => simp [intOf]; omega
    · obtain rfl : k = l.length := by omega
      clear hb
      go_wp2
      go_ret
      exact ⟨-1, rfl, ⟨fun h => by omega, fun ⟨v, h1, h2⟩ => absurd h2 (HNO.out v (by rw [List.take_length]; exact h1))⟩, HB.out⟩

set_option maxRecDepth 100000 in
set_option maxHeartbeats 1000000 in
theorem containsJn_any (lv : Value) (l : List Nat) (n : Nat) (E : Nat → Nat → Bool) (t ba bt : Nat) (xp : Option Addr) (xc : Nat) (hl : ∀ v ∈ l, v < n) (h32 : l.length ≤ 32) (w : World) (hn : Nums w 3 .i64 lv (natInts l)) (hJ : JnB w n E t ba bt xp xc) :
    Calls Tryd.prog 200 #[lv, .func (.func 201) #[] #[.pointer (some ⟨ba, 0, none⟩), .pointer (some ⟨bt, 0, none⟩)]] w fun e w' =>
      e = .returned (.bool (dec (∃ v ∈ l, JnV E t v))) ∧ Below w.heap.size w w' := by
  have HN := Lib.hid hn
  have HJ := Lib.hid hJ
  clear hn hJ
  go_enter Tryd.func200, Tryd.ntmps200
  go_wp2_with (go_at_call 221; refine (indexJn_any _ l n E t ba bt xp xc hl h32 _ HN.out HJ.out).mono ?_; rintro e w2 ⟨z, rfl, hz, hb2⟩; have HZ := Lib.hid hz; clear hz)
  go_ret
  exact ⟨ret_bool (decide_dec_iff HZ.out), hb2⟩

set_option maxRecDepth 100000 in
set_option maxHeartbeats 1000000 in
theorem areJoined_any (x : Value) (y z : Int) (n : Nat) (E : Nat → Nat → Bool) (s t : Nat) (hy : y = s) (hz : z = t) (hs : s < 65536) (ht : t < 65536) (hsn : ∀ i, s.testBit i = true → i < n) (htn : ∀ i, t.testBit i = true → i < n) (w : World) (hx : NE w x n E) (hT : Tab w) :
    Calls Tryd.prog 137 #[x, .int .u32 y, .int .u32 z] w fun e w' => e = .returned (.bool (dec (JnM E s t))) ∧ Below w.heap.size w w' := by
  subst hy; subst hz
  obtain ⟨xp, xc, rfl⟩ : ∃ p c, x = .slice p n c := by obtain ⟨p, c, e, _⟩ := hx.sl; exact ⟨p, c, e⟩
  obtain ⟨W0, hW0⟩ : ∃ W0, W0 = (w.alloc (.cells #[.slice xp n xc] 76)).alloc (.cells #[.int .u32 (t : Int)] 79) := ⟨_, rfl⟩
  have HBA : Hid (Below w.heap.size w W0) := Lib.hid (by rw [hW0]; exact below_alloc2 _ _ _)
  have HJ : Hid (JnB W0 n E t w.heap.size (w.heap.size + 1) xp xc) := Lib.hid ⟨by rw [hW0]; exact (Box.new _ _ _).alloc _, hx.next HBA.out, by
    rw [hW0]
    have := Box.new (w.alloc (.cells #[.slice xp n xc] 76)) (.int .u32 (t : Int)) 79
    rw [size_alloc] at this
    exact this, ht, htn⟩
  have HT := Lib.hid (hT.keep HBA.out)
  have HL : Hid (∀ v ∈ bitsOf s, v < n) := Lib.hid (fun v hv => hsn v ((mem_left hs).1 hv))
  have hlen : (bitsOf s).length ≤ 32 := bitsOf_length s
  have HD : Hid (dec (∃ v ∈ bitsOf s, JnV E t v) = dec (JnM E s t)) := Lib.hid (dec_congr ⟨fun ⟨v, h1, h2⟩ => ⟨v, (mem_left hs).1 h1, h2⟩, fun ⟨v, h1, h2⟩ => ⟨v, (mem_left hs).2 h1, h2⟩⟩)
  clear hx hT hsn htn
  go_enter Tryd.func137, Tryd.ntmps137
  go_upto_region 1 with fail
  rw [← hW0]
  clear hW0
  go_wp2_with (first
    | (go_at_call 130; refine (list_any _ s rfl (by omega) _ HT.out).mono ?_; rintro e w3 ⟨lv, rfl, ho3, hb3⟩; have HN3 := Lib.hid (numsInt_of _ _ _ _ ho3 (by omega)); have HJ3 := Lib.hid (HJ.out.next hb3); have HB3 := Lib.hid (HBA.out.trans (hb3.mono HBA.out.size)); clear ho3 hb3)
    | (go_at_call 200; refine (containsJn_any _ (bitsOf s) n E t w.heap.size (w.heap.size + 1) xp xc HL.out hlen _ HN3.out HJ3.out).mono ?_; rintro e w5 ⟨he5, hb5⟩; rw [HD.out] at he5; subst he5))
  go_ret
  exact ⟨rfl, HB3.out.trans (hb5.mono HB3.out.size)⟩

theorem joinM_iff {g : List (List Int)} (hg : GOk g) {A B : List Int} (hA : SetIn g.length A) (hB : SetIn g.length B) : JnM (ofG g) (mask A) (mask B) ↔ JoinP g A B := by
  have kA := bit_mask fun x hx => (hA.1 x hx).1
  have kB := bit_mask fun x hx => (hB.1 x hx).1
  constructor
  · rintro ⟨v, h1, u, h2, h3⟩
    simp only [ofG, decide_eq_true_eq] at h3
    exact ⟨_, (kA v).1 h1, _, (kB u).1 h2, by simpa using h3⟩
  · rintro ⟨x, hx, y, hy, h⟩
    have hx0 := (hA.1 x hx).1
    have hy0 := (hB.1 y hy).1
    have ex : ((x.toNat : Nat) : Int) = x := by omega
    have ey : ((y.toNat : Nat) : Int) = y := by omega
    exact ⟨x.toNat, (kA _).2 (by rw [ex]; exact hx), y.toNat, (kB _).2 (by rw [ey]; exact hy), by simp only [ofG, decide_eq_true_eq]; rw [ey]; exact h⟩

end Go.Proofs.YtmakhapdlkbbnaaDoor

/- Walks: how the program tells a model. -/
namespace Go.Proofs.YtmakhapdlkbbnaaDoor
open Go.RowKit

/-- What the closure reads: the graph's sets of neighbours, and the model's sets. -/
structure MdB (w : World) (g M : List (List Int)) (bn bs : Nat) (xp sp : Option Addr) (xc sc : Nat) : Prop where
  boxN : Box w bn 76 (.slice xp g.length xc)
  ne : NE w (.slice xp g.length xc) g.length (ofG g)
  boxS : Box w bs 75 (.slice sp M.length sc)
  sl : Sl w 79 (.slice sp M.length sc) M.length ((M.map mask).map u32v)
  tab : Tab w
  ok : GOk g
  sets : ∀ a, a < M.length → SetIn g.length (row M a)
section
variable {w w' : World} {g M : List (List Int)} {bn bs : Nat} {xp sp : Option Addr} {xc sc : Nat}
theorem MdB.next (h : MdB w g M bn bs xp sp xc sc) (hb : Below w.heap.size w w') : MdB w' g M bn bs xp sp xc sc :=
  ⟨h.boxN.keep hb, h.ne.next hb, h.boxS.keep hb, h.sl.below hb, h.tab.keep hb, h.ok, h.sets⟩
theorem set_mask {n : Nat} {s : List Int} (hn : n ≤ 16) (h : SetIn n s) : mask s < 65536 ∧ ∀ i, (mask s).testBit i = true → i < n := by
  have k := bit_mask fun x hx => (h.1 x hx).1
  refine ⟨mask_lt16 _ fun x hx => by have := (h.1 x hx).2; omega, fun i hi => ?_⟩
  have := h.1 _ ((k i).1 hi)
  omega
theorem MdB.get (h : MdB w g M bn bs xp sp xc sc) {a : Nat} (ha : a < M.length) : ∃ qb qo, sp = some ⟨qb, qo, none⟩ ∧ w.cell? ⟨qb, qo + a, none⟩ = some (.int .u32 (mask (row M a) : Nat)) := by
  have hl2 : (M.map mask).length = M.length := List.length_map ..
  have hsl := h.sl
  rw [← hl2] at hsl
  obtain ⟨qb, qo, e, hq⟩ := nets_cell hsl (v := a) (by rw [hl2]; exact ha)
  have e1 : (M.map mask)[a]'(by rw [hl2]; exact ha) = mask (row M a) := by simp [row, ha]
  rw [e1] at hq
  exact ⟨qb, qo, e, hq⟩
end

set_option maxRecDepth 100000 in
set_option maxHeartbeats 2000000 in
theorem mdE_any (ev : Value) (a b : Nat) (g M : List (List Int)) (bn bs : Nat) (xp sp : Option Addr) (xc sc : Nat) (ha : a < M.length) (hb : b < M.length) (w : World) (hn : Nums w 2 .i64 ev [(a : Int), (b : Int)]) (hB : MdB w g M bn bs xp sp xc sc) :
    Calls Tryd.prog 145 #[ev, .pointer (some ⟨bn, 0, none⟩), .pointer (some ⟨bs, 0, none⟩)] w fun e w' => e = .returned (.bool (!dec (JoinP g (row M a) (row M b)))) ∧ Below w.heap.size w w' := by
  obtain ⟨rp, rc, rfl, _⟩ := id hn.shape
  obtain ⟨rb, ro, rfl, hc0⟩ := hn.get (k := 0) (by simp)
  obtain ⟨_, _, e1, hc1⟩ := hn.get (k := 1) (by simp)
  cases e1
  simp only [List.getElem_cons_zero, List.getElem_cons_succ, Nat.add_zero] at hc0 hc1
  have hcn := hB.boxN.cell
  have hcs := hB.boxS.cell
  obtain ⟨qb, qo, rfl, hca⟩ := hB.get ha
  obtain ⟨_, _, e2, hcb⟩ := hB.get hb
  cases e2
  have h16 := hB.ok.le
  have hA16 := set_mask h16 (hB.sets a ha)
  have hB16 := set_mask h16 (hB.sets b hb)
  have HD : Hid (dec (JnM (ofG g) (mask (row M a)) (mask (row M b))) = dec (JoinP g (row M a) (row M b))) := Lib.hid (dec_congr (joinM_iff hB.ok (hB.sets a ha) (hB.sets b hb)))
  obtain ⟨ma, hma⟩ : ∃ ma, ma = mask (row M a) := ⟨_, rfl⟩
  obtain ⟨mb, hmb⟩ : ∃ mb, mb = mask (row M b) := ⟨_, rfl⟩
  rw [← hma] at hca hA16 HD
  rw [← hmb] at hcb hB16 HD
  have HA := Lib.hid hA16
  have HBB := Lib.hid hB16
  have HNE := Lib.hid hB.ne
  have HT := Lib.hid hB.tab
  clear hn hB hA16 hB16 hma hmb
  go_enter Tryd.func145, Tryd.ntmps145
  go_upto_region 1 with fail
  go_region_held3 (fun w' => w'.cell? ⟨bn, 0, none⟩ = some (.slice xp g.length xc) ∧ w'.cell? ⟨bs, 0, none⟩ = some (.slice (some ⟨qb, qo, none⟩) M.length sc) ∧ w'.cell? ⟨rb, ro, none⟩ = some (.int .i64 a) ∧ w'.cell? ⟨rb, ro + 1, none⟩ = some (.int .i64 b) ∧ w'.cell? ⟨qb, qo + a, none⟩ = some (.int .u32 (ma : Int)) ∧ w'.cell? ⟨qb, qo + b, none⟩ = some (.int .u32 (mb : Int)))
    (first | exact ⟨hcn, hcs, hc0, hc1, hca, hcb⟩ | exact ⟨hb4'.at' hcn, hb4'.at' hcs, hb4'.at' hc0, hb4'.at' hc1, hb4'.at' hca, hb4'.at' hcb⟩ | go_keep)
    (first | (go_at_call 137; refine (areJoined_any _ _ _ g.length (ofG g) ma mb rfl rfl HA.out.1 HBB.out.1 HA.out.2 HBB.out.2 _ (HNE.out.next (below_dN (Below.refl _ _) 1)) (HT.out.keep (below_dN (Below.refl _ _) 1))).mono ?_; rintro e w4 ⟨he4, hb4⟩; rw [HD.out] at he4; subst he4; have hb4' : Below w.heap.size w w4 := (below_dN (Below.refl _ _) 1).trans hb4))
  all_goals go_wp2
  all_goals go_ret
  all_goals exact ⟨rfl, hb4'⟩

set_option maxRecDepth 100000 in
set_option maxHeartbeats 2000000 in
theorem indexMd_any (lv : Value) (base : Nat) (l : List (Nat × Nat)) (g M : List (List Int)) (bn bs : Nat) (xp sp : Option Addr) (xc sc : Nat) (hl : ∀ e ∈ l, e.1 < M.length ∧ e.2 < M.length) (h256 : l.length ≤ 256) (w : World) (hn : PrsO w base lv l) (hB : MdB w g M bn bs xp sp xc sc) :
    Calls Tryd.prog 203 #[lv, .func (.func 145) #[] #[.pointer (some ⟨bn, 0, none⟩), .pointer (some ⟨bs, 0, none⟩)]] w fun e w' =>
      ∃ z : Int, e = .returned (.int .i64 z) ∧ (0 ≤ z ↔ ∃ e ∈ l, ¬ JoinP g (row M e.1) (row M e.2)) ∧ Below w.heap.size w w' := by
  obtain ⟨lp, lc, rfl⟩ := hn.shape
  have HN := Lib.hid hn
  have HB := Lib.hid hB
  have HL := Lib.hid hl
  clear hn hB hl
  go_enter Tryd.func203, Tryd.ntmps203
  go_wp2
  go_loopw [8] (fun i wr => ∃ k : Nat, k ≤ l.length ∧ i = .int .i64 k ∧ Hid (∀ e ∈ l.take k, JoinP g (row M e.1) (row M e.2)) ∧ Below w.heap.size w wr) (fun i _ => l.length - (intOf i).toNat)
  case atStart => exact ⟨0, Nat.zero_le _, rfl, Lib.hid (fun v hv => by simp at hv), Below.refl _ _⟩
  case round =>
    obtain ⟨k, hk, rfl, HNO, hb⟩ := hrel
    have HBW := Lib.hid hb
    by_cases hlt : k < l.length
    · obtain ⟨eb, eo, rp, rc, rfl, hce, hne⟩ := (HN.out.below hb).get hlt
      obtain ⟨⟨a, b⟩, hab⟩ : ∃ e : Nat × Nat, e = l[k] := ⟨_, rfl⟩
      have HMEM := Lib.hid (show (a, b) ∈ l by rw [hab]; exact List.getElem_mem hlt)
      have HTK : Hid (l.take (k + 1) = l.take k ++ [(a, b)]) := Lib.hid (by rw [take_snoc' l k hlt, hab])
      rw [← hab] at hne
      have hin := HL.out _ HMEM.out
      simp only at hne hin
      have HNE := Lib.hid hne
      clear hab hb hne
      by_cases hj : JoinP g (row M a) (row M b)
      · have HJV := Lib.hid hj
        have hd := Lib.hid (dec_true hj)
        clear hj
        go_wp2_with (go_at_call 145; refine (mdE_any _ a b g M bn bs xp sp xc sc hin.1 hin.2 _ HNE.out (HB.out.next HBW.out)).mono ?_; rintro e w2 ⟨he, hb2⟩; rw [hd.out] at he; subst he)
        go_roundw
        case rel => exact ⟨k + 1, by omega, by go_num, Lib.hid (fun x hx => by
          rw [HTK.out] at hx
          rcases List.mem_append.1 hx with h | h
          · exact HNO.out x h
          · obtain rfl : x = (a, b) := by simpa using h
            exact HJV.out), HBW.out.trans (hb2.mono HBW.out.size)⟩
        case measure => simp [intOf]; omega
      · have HJV := Lib.hid hj
        have hd := Lib.hid (dec_false hj)
        clear hj
        go_wp2_with (go_at_call 145; refine (mdE_any _ a b g M bn bs xp sp xc sc hin.1 hin.2 _ HNE.out (HB.out.next HBW.out)).mono ?_; rintro e w2 ⟨he, hb2⟩; rw [hd.out] at he; subst he)
        go_ret
        exact ⟨k, rfl, ⟨fun _ => ⟨(a, b), HMEM.out, HJV.out⟩, fun _ => by omega⟩, HBW.out.trans (hb2.mono HBW.out.size)⟩
    · obtain rfl : k = l.length := by omega
      clear hb
      go_wp2
      go_ret
      exact ⟨-1, rfl, ⟨fun h => by omega, fun ⟨v, h1, h2⟩ => absurd (HNO.out v (by rw [List.take_length]; exact h1)) h2⟩, HBW.out⟩

set_option maxRecDepth 100000 in
set_option maxHeartbeats 1000000 in
theorem containsMd_any (lv : Value) (base : Nat) (l : List (Nat × Nat)) (g M : List (List Int)) (bn bs : Nat) (xp sp : Option Addr) (xc sc : Nat) (hl : ∀ e ∈ l, e.1 < M.length ∧ e.2 < M.length) (h256 : l.length ≤ 256) (w : World) (hn : PrsO w base lv l) (hB : MdB w g M bn bs xp sp xc sc) :
    Calls Tryd.prog 143 #[lv, .func (.func 145) #[] #[.pointer (some ⟨bn, 0, none⟩), .pointer (some ⟨bs, 0, none⟩)]] w fun e w' =>
      e = .returned (.bool (dec (∃ e ∈ l, ¬ JoinP g (row M e.1) (row M e.2)))) ∧ Below w.heap.size w w' := by
  have HN := Lib.hid hn
  have HB := Lib.hid hB
  clear hn hB
  go_enter Tryd.func143, Tryd.ntmps143
  go_wp2_with (go_at_call 203; refine (indexMd_any _ base l g M bn bs xp sp xc sc hl h256 _ HN.out HB.out).mono ?_; rintro e w2 ⟨z, rfl, hz, hb2⟩; have HZ := Lib.hid hz; clear hz)
  go_ret
  exact ⟨ret_bool (decide_dec_iff HZ.out), hb2⟩

end Go.Proofs.YtmakhapdlkbbnaaDoor
