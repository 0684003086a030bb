/- Plain facts: lasting stable sets, counts of induced graphs. -/
import Derived.Test.YtkppbmfliejnmaaDoorSnQ26
import Derived.Test.YtkppbmfliejnmaaDoorSnQ28
import Derived.Test.YtkppbmfliejnmaaDoorSnQ38
import Derived.Test.YtkppbmfliejnmaaDoorSnQ13
import Derived.Test.YtkppbmfliejnmaaDoorSnQ14
namespace Go.Proofs.YtkppbmfliejnmaaDoor
open Go.RowKit

theorem bit_nat (T : List Nat) (j : Nat) : (mask (natInts T)).testBit j = true ↔ j ∈ T := by
  rw [testBit_mask, List.any_eq_true]
  constructor
  · rintro ⟨x, hx, he⟩
    obtain ⟨i, hi, rfl⟩ := mem_natInts.1 hx
    have : i = j := by simpa using he
    exact this ▸ hi
  · intro h
    exact ⟨(j : Int), mem_natInts.2 ⟨j, h, rfl⟩, by simp⟩
theorem ofG_symE {g : List (List Int)} (hok : GOk g) (a b : Nat) : ofG g a b = ofG g b a := by
  rw [Bool.eq_iff_iff]
  exact ⟨ofG_sym hok a b, ofG_sym hok b a⟩
theorem set_nat {n : Nat} {T : List Nat} (h1 : T.Pairwise (· < ·)) (h2 : ∀ x ∈ T, x < n) : SetIn n (natInts T) := by
  refine ⟨fun x hx => ?_, ?_⟩
  · obtain ⟨i, hi, rfl⟩ := mem_natInts.1 hx
    have := h2 i hi
    omega
  · unfold natInts
    rw [List.pairwise_map]
    exact h1.imp fun h => by omega
theorem stb_bits {g : List (List Int)} (hok : GOk g) {b : Nat} (hb : ∀ x, b.testBit x = true → x < g.length) : StbB (netL g) b ↔ ∀ x y, b.testBit x = true → b.testBit y = true → ofG g x y = false := by
  constructor
  · intro h x y hx hy
    have h1 := h x (by rw [netL_len]; exact hb x hx) hx
    cases e : ofG g x y
    · rfl
    · have h2 : ((netL g).getD x 0 &&& b).testBit y = true := by
        rw [Nat.testBit_and, (adG_bit hok (hb x hx) y).2 e, hy]; rfl
      rw [h1] at h2
      simp at h2
  · intro h v hv hvb
    refine Nat.eq_of_testBit_eq fun j => ?_
    rw [Nat.testBit_and, Nat.zero_testBit, Bool.and_eq_false_iff]
    cases e : b.testBit j
    · exact .inr rfl
    · left
      rw [Bool.eq_false_iff]
      intro k
      have h1 := (adG_bit hok (hb v hvb) j).1 k
      have h2 := h v j hvb e
      have : adG g v j = ofG g v j := rfl
      rw [this, h2] at h1
      cases h1
theorem stb_nat {g : List (List Int)} (hok : GOk g) {T : List Nat} (hT : ∀ x ∈ T, x < g.length) : StbB (netL g) (mask (natInts T)) ↔ ∀ x ∈ T, ∀ y ∈ T, ofG g x y = false := by
  rw [stb_bits hok fun x hx => hT x ((bit_nat T x).1 hx)]
  exact ⟨fun h x hx y hy => h x y ((bit_nat T x).2 hx) ((bit_nat T y).2 hy), fun h x y hx hy => h x ((bit_nat T x).1 hx) y ((bit_nat T y).1 hy)⟩
section
variable {g : List (List Int)}
theorem ofH_iff {a b : Nat} (ha : a < g.length) (hb : b < g.length) : ofG (matG g.length (compE (ofG g))) a b = true ↔ a ≠ b ∧ ofG g a b = false := by
  rw [ofG_matG ha hb]
  unfold compE
  simp
/-- What lasts is stable and rules all. -/
theorem last_ok (hok : GOk g) {T : List Nat} (h : T ∈ clsP g.length (ofG (matG g.length (compE (ofG g))))) : StbS g (natInts T) ∧ RulS g (natInts T) := by
  obtain ⟨h1, h2⟩ := clsP_mem h
  obtain ⟨U, hU, hM⟩ := clF_sound _ _ _ _ T h
  obtain rfl : T = U := by simpa using hU
  have hset := set_nat h1 h2
  refine ⟨⟨hok, hset, (stb_nat hok h2).2 fun x hx y hy => ?_⟩, hok, hset, fun u hu => ?_⟩
  · obtain ⟨i, hi, rfl⟩ := List.getElem_of_mem hx
    obtain ⟨j, hj, rfl⟩ := List.getElem_of_mem hy
    have hp := List.pairwise_iff_getElem.1 hM.clq
    rcases Nat.lt_trichotomy i j with hij | rfl | hij
    · exact ((ofH_iff (h2 _ hx) (h2 _ hy)).1 (hp i j hi hj hij)).2
    · exact ofG_irr hok _
    · rw [ofG_symE hok]
      exact ((ofH_iff (h2 _ hy) (h2 _ hx)).1 (hp j i hj hi hij)).2
  · by_cases hin : u ∈ T
    · exact .inl ((bit_nat T u).2 hin)
    · obtain ⟨t, ht, he⟩ := hM.most u (.inl (List.mem_range.2 hu)) hin
      refine .inr ⟨t, (bit_nat T t).2 ht, ?_⟩
      cases e : ofG g t u
      · have := (ofH_iff (h2 t ht) hu).2 ⟨fun k => hin (k ▸ ht), e⟩
        rw [he] at this
        cases this
      · rfl
/-- Each stable set is a part of one that lasts. -/
theorem last_all (hok : GOk g) {s : List Nat} (h : StbS g (natInts s)) : ∃ T ∈ clsP g.length (ofG (matG g.length (compE (ofG g)))), ∀ x ∈ s, x ∈ T := by
  have hH : GOk (matG g.length (compE (ofG g))) := gok_matG hok.pos hok.le (comp_sym (ofG_sym hok)) (comp_irr _)
  have hs : ∀ x ∈ s, x < g.length := fun x hx => by
    have := h.2.1.1 (x : Int) (mem_natInts.2 ⟨x, hx, rfl⟩)
    omega
  have hst := (stb_nat hok hs).1 h.2.2
  obtain ⟨T, hT, hin⟩ := clq_grow (n := g.length) (ofG_symE hH) (ofG_irr hH) g.length (fun x => decide (x ∈ s)) (Nat.sub_le _ _) (fun a b ha hb pa pb hab => (ofH_iff ha hb).2 ⟨by omega, hst a (by simpa using pa) b (by simpa using pb)⟩)
  exact ⟨T, hT, fun x hx => hin x (hs x hx) (by simpa using hx)⟩
theorem cnt_ind {l : List Nat} : cntL (ofG (indL g (natInts l))) (List.range l.length) = cntL (ofG g) l := by
  have e1 : cntL (ofG (indL g (natInts l))) (List.range l.length) = cntL (fun i j => ofG g (l.getD i 0) (l.getD j 0)) (List.range l.length) := by
    refine cntL_congr l.length _ (by rw [List.length_range]; omega) fun u hu v hv => ?_
    have h1 := List.mem_range.1 hu
    have h2 := List.mem_range.1 hv
    unfold indL
    rw [natInts_length, ofG_matG h1 h2, indE_nat h1 h2]
    simp [h1, h2]
  rw [e1, cntL_map (ofG g) (fun i => l.getD i 0) l.length _ (by rw [List.length_range]; omega)]
  congr 1
  refine List.ext_getElem (by simp) fun i h1 h2 => ?_
  have h3 : i < l.length := by simpa using h1
  simp [h3]
/-- The vertices that are not beside v. -/
def farL (g : List (List Int)) (v m : Nat) : List Nat := (List.range m).filter fun u => !(u == v) && !ofG g u v
theorem farL_yes {v m : Nat} (h : m ≠ v) (hE : ofG g m v = false) : farL g v (m + 1) = farL g v m ++ [m] := by
  unfold farL; rw [List.range_succ, List.filter_append]; simp [h, hE]
theorem farL_no {v m : Nat} (h : m = v ∨ ofG g m v = true) : farL g v (m + 1) = farL g v m := by
  unfold farL; rw [List.range_succ, List.filter_append]
  rcases h with h | h <;> simp [h]
theorem farL_rising (v m : Nat) : (farL g v m).Pairwise (· < ·) := List.Pairwise.filter _ List.pairwise_lt_range
theorem farL_lt {v m : Nat} : ∀ x ∈ farL g v m, x < m := fun x hx => List.mem_range.1 (List.mem_filter.1 hx).1
theorem farL_len (v m : Nat) : (farL g v m).length ≤ m := by
  have := List.length_filter_le (fun u => !(u == v) && !ofG g u v) (List.range m)
  rwa [List.length_range] at this
theorem rstN_one (v m : Nat) : rstN [(v : Int)] m = (List.range m).filter fun u => !(u == v) := by
  unfold rstN
  refine List.filter_congr fun x _ => ?_
  by_cases h : x = v
  · simp [h]
  · have : ¬ ((x : Int) = (v : Int)) := by omega
    simp [h, this]
theorem cnt_with (hok : GOk g) {v : Nat} (hv : v < g.length) : cntL (ofG g) (List.range g.length) = cntL (ofG g) (rstN [(v : Int)] g.length) + cntL (ofG g) (farL g v g.length) := by
  rw [cntL_split (ofG_symE hok) g.length (List.range g.length) (by rw [List.length_range]; omega) List.nodup_range v (List.mem_range.2 hv), rstN_one]
  congr 2
  unfold farL
  rw [List.filter_filter]
  exact List.filter_congr fun u _ => by rw [ofG_symE hok u v, Bool.and_comm]
theorem rst_one_nil {v : Nat} (hv : v < 1) : rstN [(v : Int)] 1 = [] := by
  rw [rstN_one]
  obtain rfl : v = 0 := by omega
  decide
theorem rstN_rising (xs : List Int) (m : Nat) : (rstN xs m).Pairwise (· < ·) := List.Pairwise.filter _ List.pairwise_lt_range
theorem rstN_lt {xs : List Int} {m : Nat} : ∀ x ∈ rstN xs m, x < m := fun x hx => List.mem_range.1 (List.mem_filter.1 hx).1
theorem rst_one_pos {v m : Nat} (h : 1 < m) : 1 ≤ (rstN [(v : Int)] m).length := by
  rw [rstN_one]
  obtain ⟨x, h1, h2⟩ : ∃ x, x < m ∧ x ≠ v := by
    by_cases e : v = 0
    · exact ⟨1, h, by omega⟩
    · exact ⟨0, by omega, by omega⟩
  exact List.length_pos_of_mem (a := x) (List.mem_filter.2 ⟨List.mem_range.2 h1, by simp [h2]⟩)
end

end Go.Proofs.YtkppbmfliejnmaaDoor

/- Walks: whether a set is stable, a cover (the program's; its first part by sed of XMmB, wip/mkSbF.py). -/
namespace Go.Proofs.YtkppbmfliejnmaaDoor
open Go.RowKit

theorem decide_decS {p q : Prop} [Decidable p] (h : p ↔ q) : decide p = dec q := by
  by_cases k : q
  · rw [dec_true k, decide_eq_true (h.2 k)]
  · rw [dec_false k, decide_eq_false fun e => k (h.1 e)]
theorem and_zeroS {a b : Nat} : a &&& b = 0 ↔ ∀ i, ¬ (a.testBit i = true ∧ b.testBit i = true) := by
  constructor
  · intro h i ⟨h1, h2⟩
    have : (a &&& b).testBit i = true := by rw [Nat.testBit_and, h1, h2]; rfl
    rw [h] at this
    simp at this
  · intro h
    refine Nat.eq_of_testBit_eq fun i => ?_
    rw [Nat.testBit_and, Nat.zero_testBit]
    cases e1 : a.testBit i
    · rfl
    · cases e2 : b.testBit i
      · rfl
      · exact absurd ⟨e1, e2⟩ (h i)
/-- An edge joins two masks. -/
def SvV (E : Nat → Nat → Bool) (t v : Nat) : Prop := ∃ u, t.testBit u = true ∧ E v u = true
def SvM (E : Nat → Nat → Bool) (s t : Nat) : Prop := ∃ v, s.testBit v = true ∧ SvV E t v

theorem natInts_atS {l : List Nat} {k : Nat} (h : k < l.length) {h' : k < (natInts l).length} : (natInts l)[k] = ((l[k] : Nat) : Int) := by simp [natInts]
/-- What the closure reads. -/
structure SvB (w : World) (n : Nat) (E : Nat → Nat → Bool) (t : Nat) (ba bt : Nat) (xp : Option Addr) (xc : Nat) : Prop where
  boxA : Box w ba 73 (.slice xp n xc)
  ne : NE w (.slice xp n xc) n E
  boxT : Box w bt 70 (.int .u32 (t : Int))
  t16 : t < 65536
  tn : ∀ i, t.testBit i = true → i < n
theorem SvB.next {w w' : World} {n : Nat} {E : Nat → Nat → Bool} {t ba bt : Nat} {xp : Option Addr} {xc : Nat} (h : SvB w n E t ba bt xp xc) (hb : Below w.heap.size w w') : SvB w' n E t ba bt xp xc :=
  ⟨h.boxA.keep hb, h.ne.next hb, h.boxT.keep hb, h.t16, h.tn⟩

set_option maxRecDepth 100000 in
set_option maxHeartbeats 1000000 in
theorem stbV_any (z : Int) (v n : Nat) (E : Nat → Nat → Bool) (t ba bt : Nat) (xp : Option Addr) (xc : Nat) (hz : z = v) (hv : v < n) (w : World) (hJ : SvB w n E t ba bt xp xc) :
    Calls Tryd.prog 183 #[.int .i64 z, .pointer (some ⟨ba, 0, none⟩), .pointer (some ⟨bt, 0, none⟩)] w fun e w' => e = .returned (.bool (dec (SvV E t v))) ∧ Below w.heap.size w w' := by
  subst hz
  have hca := hJ.boxA.cell
  have hct := hJ.boxT.cell
  obtain ⟨nb, no, av, rfl, hcv, ha16, hbit⟩ := hJ.ne.get hv
  have hand := u32_and_nat av t (by omega) (by have := hJ.t16; omega)
  have HD : Hid ((((av &&& t : Nat) : Int) != 0) = dec (SvV E t v)) := Lib.hid (by
    by_cases h : SvV E t v
    · rw [dec_true h]
      obtain ⟨u, h1, h2⟩ := h
      have h3 : av &&& t ≠ 0 := fun h0 => and_zeroS.1 h0 u ⟨by rw [hbit u, h2]; simp [hJ.tn u h1], h1⟩
      simp
      omega
    · rw [dec_false h]
      have h3 : av &&& t = 0 := and_zeroS.2 fun u ⟨h1, h2⟩ => h ⟨u, h2, by
        rw [hbit u, Bool.and_eq_true] at h1
        exact h1.2⟩
      rw [h3]; rfl)
  clear hbit hJ
  generalize (av &&& t : Nat) = avt at hand HD
  go_enter Tryd.func183, Tryd.ntmps183
  go_upto_region 1 with fail
  go_region_held3 (fun w' => w'.cell? ⟨ba, 0, none⟩ = some (.slice (some ⟨nb, no, none⟩) n xc) ∧ w'.cell? ⟨bt, 0, none⟩ = some (.int .u32 (t : Int)) ∧ w'.cell? ⟨nb, no + v, none⟩ = some (.int .u32 (av : Int)))
    (first | exact ⟨hca, hct, hcv⟩ | go_keep)
    (fail)
  all_goals go_wp2
  all_goals go_ret
  all_goals exact ⟨ret_bool HD.out, below_dN (Below.refl _ _) _⟩

set_option maxRecDepth 100000 in
set_option maxHeartbeats 2000000 in
theorem indexSv_any (lv : Value) (l : List Nat) (n : Nat) (E : Nat → Nat → Bool) (t ba bt : Nat) (xp : Option Addr) (xc : Nat) (hl : ∀ v ∈ l, v < n) (h32 : l.length ≤ 32) (w : World) (hn : Nums w 3 .i64 lv (natInts l)) (hJ : SvB w n E t ba bt xp xc) :
    Calls Tryd.prog 220 #[lv, .func (.func 183) #[] #[.pointer (some ⟨ba, 0, none⟩), .pointer (some ⟨bt, 0, none⟩)]] w fun e w' =>
      ∃ z : Int, e = .returned (.int .i64 z) ∧ (0 ≤ z ↔ ∃ v ∈ l, SvV E t v) ∧ Below w.heap.size w w' := by
  obtain ⟨lp, lc, rfl, _⟩ := id hn.shape
  have HN := Lib.hid hn
  have HJ := Lib.hid hJ
  have HL := Lib.hid hl
  have hnl := natInts_length l
  rw [hnl] at HN ⊢
  clear hn hJ hl hnl
  go_enter Tryd.func220, Tryd.ntmps220
  go_wp2
  go_loopw [8] (fun i wr => ∃ k : Nat, k ≤ l.length ∧ i = .int .i64 k ∧ Hid (∀ v ∈ l.take k, ¬ SvV E t v) ∧ Below w.heap.size w wr) (fun i _ => l.length - (intOf i).toNat)
  case atStart => exact ⟨0, Nat.zero_le _, rfl, Lib.hid (fun v hv => by simp at hv), Below.refl _ _⟩
  case round =>
    obtain ⟨k, hk, rfl, HNO, hb⟩ := hrel
    have HB := Lib.hid hb
    by_cases hlt : k < l.length
    · obtain ⟨qb, qo, rfl, hq⟩ := (HN.out.below hb).get (k := k) (by rw [natInts_length]; exact hlt)
      obtain ⟨v, hv⟩ : ∃ v, v = l[k] := ⟨_, rfl⟩
      rw [natInts_atS hlt, ← hv] at hq
      have hvn : v < n := by rw [hv]; exact HL.out _ (List.getElem_mem hlt)
      have HMEM := Lib.hid (show v ∈ l by rw [hv]; exact List.getElem_mem hlt)
      have HTK : Hid (l.take (k + 1) = l.take k ++ [v]) := Lib.hid (by rw [take_snoc' l k hlt, hv])
      clear hv hb
      by_cases hj : SvV E t v
      · have HJV := Lib.hid hj
        have hd := Lib.hid (dec_true hj)
        clear hj
        go_wp2_with (go_at_call 183; refine (stbV_any _ v n E t ba bt xp xc rfl hvn _ (HJ.out.next HB.out)).mono ?_; rintro e w2 ⟨he, hb2⟩; rw [hd.out] at he; subst he)
        go_ret
        exact ⟨k, rfl, ⟨fun _ => ⟨v, HMEM.out, HJV.out⟩, fun _ => by omega⟩, HB.out.trans (hb2.mono HB.out.size)⟩
      · have HJV := Lib.hid hj
        have hd := Lib.hid (dec_false hj)
        clear hj
        go_wp2_with (go_at_call 183; refine (stbV_any _ v n E t ba bt xp xc rfl hvn _ (HJ.out.next HB.out)).mono ?_; rintro e w2 ⟨he, hb2⟩; rw [hd.out] at he; subst he)
        go_roundw
        case rel => exact ⟨k + 1, by omega, by go_num, Lib.hid (fun x hx => by
          rw [HTK.out] at hx
          rcases List.mem_append.1 hx with h | h
          · exact HNO.out x h
          · obtain rfl : x = v := by simpa using h
            exact HJV.out), HB.out.trans (hb2.mono HB.out.size)⟩
        case measure => simp [intOf]; omega
    · obtain rfl : k = l.length := by omega
      clear hb
      go_wp2
      go_ret
      exact ⟨-1, rfl, ⟨fun h => by omega, fun ⟨v, h1, h2⟩ => absurd h2 (HNO.out v (by rw [List.take_length]; exact h1))⟩, HB.out⟩

set_option maxRecDepth 100000 in
set_option maxHeartbeats 1000000 in
theorem containsSv_any (lv : Value) (l : List Nat) (n : Nat) (E : Nat → Nat → Bool) (t ba bt : Nat) (xp : Option Addr) (xc : Nat) (hl : ∀ v ∈ l, v < n) (h32 : l.length ≤ 32) (w : World) (hn : Nums w 3 .i64 lv (natInts l)) (hJ : SvB w n E t ba bt xp xc) :
    Calls Tryd.prog 182 #[lv, .func (.func 183) #[] #[.pointer (some ⟨ba, 0, none⟩), .pointer (some ⟨bt, 0, none⟩)]] w fun e w' =>
      e = .returned (.bool (dec (∃ v ∈ l, SvV E t v))) ∧ Below w.heap.size w w' := by
  have HN := Lib.hid hn
  have HJ := Lib.hid hJ
  clear hn hJ
  go_enter Tryd.func182, Tryd.ntmps182
  go_wp2_with (go_at_call 220; refine (indexSv_any _ l n E t ba bt xp xc hl h32 _ HN.out HJ.out).mono ?_; rintro e w2 ⟨z, rfl, hz, hb2⟩; have HZ := Lib.hid hz; clear hz)
  go_ret
  exact ⟨ret_bool (decide_decS HZ.out), hb2⟩

set_option maxRecDepth 100000 in
set_option maxHeartbeats 1000000 in
theorem isStable_any (x : Value) (y : Int) (n : Nat) (E : Nat → Nat → Bool) (s : Nat) (hy : y = s) (hs : s < 65536) (hsn : ∀ i, s.testBit i = true → i < n) (w : World) (hx : NE w x n E) (hT : Tab w) :
    Calls Tryd.prog 96 #[x, .int .u32 y] w fun e w' => e = .returned (.bool (dec (¬ SvM E s s))) ∧ Below w.heap.size w w' := by
  subst hy
  obtain ⟨xp, xc, rfl⟩ : ∃ p c, x = .slice p n c := by obtain ⟨p, c, e, _⟩ := hx.sl; exact ⟨p, c, e⟩
  obtain ⟨W0, hW0⟩ : ∃ W0, W0 = (w.alloc (.cells #[.slice xp n xc] 73)).alloc (.cells #[.int .u32 (s : Int)] 70) := ⟨_, rfl⟩
  have HBA : Hid (Below w.heap.size w W0) := Lib.hid (by rw [hW0]; exact below_alloc2 _ _ _)
  have HJ : Hid (SvB W0 n E s w.heap.size (w.heap.size + 1) xp xc) := Lib.hid ⟨by rw [hW0]; exact (Box.new _ _ _).alloc _, hx.next HBA.out, by
    rw [hW0]
    have := Box.new (w.alloc (.cells #[.slice xp n xc] 73)) (.int .u32 (s : Int)) 70
    rw [size_alloc] at this
    exact this, hs, hsn⟩
  have HT := Lib.hid (hT.keep HBA.out)
  have HL : Hid (∀ v ∈ bitsOf s, v < n) := Lib.hid (fun v hv => hsn v ((mem_left hs).1 hv))
  have hlen : (bitsOf s).length ≤ 32 := bitsOf_length s
  have hcs := HJ.out.boxT.cell
  have HD : Hid (dec (∃ v ∈ bitsOf s, SvV E s v) = dec (SvM E s s)) := Lib.hid (dec_congr ⟨fun ⟨v, h1, h2⟩ => ⟨v, (mem_left hs).1 h1, h2⟩, fun ⟨v, h1, h2⟩ => ⟨v, (mem_left hs).2 h1, h2⟩⟩)
  obtain ⟨d, hd⟩ : ∃ d, d = dec (SvM E s s) := ⟨_, rfl⟩
  have HN : Hid ((!d) = dec (¬ SvM E s s)) := Lib.hid (by
    rw [hd]
    by_cases h : SvM E s s
    · rw [dec_true h, dec_false (fun k => k h)]; rfl
    · rw [dec_false h, dec_true h]; rfl)
  rw [← hd] at HD
  clear hx hT hsn hd
  go_enter Tryd.func96, Tryd.ntmps96
  go_upto_region 1 with fail
  rw [← hW0]
  clear hW0
  go_wp2_with (first
    | (go_at_call 180; refine (list_any _ s rfl (by omega) _ HT.out).mono ?_; rintro e w3 ⟨lv, rfl, ho3, hb3⟩; have HN3 := Lib.hid (numsInt_of _ _ _ _ ho3 (by omega)); have HJ3 := Lib.hid (HJ.out.next hb3); have HB3 := Lib.hid (HBA.out.trans (hb3.mono HBA.out.size)); clear ho3 hb3)
    | (go_at_call 182; refine (containsSv_any _ (bitsOf s) n E s w.heap.size (w.heap.size + 1) xp xc HL.out hlen _ HN3.out HJ3.out).mono ?_; rintro e w5 ⟨he5, hb5⟩; rw [HD.out] at he5; subst he5))
  go_ret
  exact ⟨ret_bool HN.out, HB3.out.trans (hb5.mono HB3.out.size)⟩

end Go.Proofs.YtkppbmfliejnmaaDoor

/- Plain facts: the greatest stable set, the least cover. -/
namespace Go.Proofs.YtkppbmfliejnmaaDoor
open Go.RowKit

/-- The greatest set that fits; of several the first in order. -/
def MaxP (P : Nat → Prop) (n s : Nat) : Prop := s < 2 ^ n ∧ P s ∧ ∀ t, t < 2 ^ n → P t → (bitsOf t).length ≤ (bitsOf s).length ∧ ((bitsOf t).length = (bitsOf s).length → ¬ lexL (bitsOf t) (bitsOf s))
theorem bits_lenN {n s : Nat} (hn : n ≤ 16) (hs : s < 2 ^ n) : (bitsOf s).length ≤ n := by
  obtain ⟨hc, _⟩ := cand_bits hn hs
  by_cases he : bitsOf s = []
  · rw [he]; simp
  · have := rising_room hc.ris hc.inn he
    omega
theorem maxP_det {P Q : Nat → Prop} {n s t : Nat} (hn : n ≤ 16) (hPQ : ∀ x, x < 2 ^ n → (P x ↔ Q x)) (h : MaxP P n s) (k : MaxP Q n t) : s = t := by
  have h1 := h.2.2 t k.1 ((hPQ t k.1).2 k.2.1)
  have h2 := k.2.2 s h.1 ((hPQ s h.1).1 h.2.1)
  have e := lexL_tri _ _ (h2.2 (by omega)) (h1.2 (by omega))
  rw [← mask_bitsOf (cand_bits hn h.1).2, ← mask_bitsOf (cand_bits hn k.1).2, e]
theorem max_ch {P : Nat → Prop} {n many s : Nat} (hn : n ≤ 16) (hno : ∀ m, many < m → m ≤ n → ChNo P n 0 m 0) (hy : ChYes P n 0 many 0 s) : MaxP P n s := by
  obtain ⟨T, hT, hs, hP, hb⟩ := hy
  rw [Nat.zero_or] at hs
  subst hs
  have hlt := cand_lt hT
  refine ⟨hlt, hP, fun t ht hPt => ?_⟩
  obtain ⟨hc, h16⟩ := cand_bits hn ht
  have hl := bits_lenN hn ht
  rw [bitsOf_maskN hT.ris fun x hx => by have := (hT.inn x hx).2; omega, hT.len]
  refine ⟨Nat.le_of_not_lt fun k => ?_, fun e k => ?_⟩
  · exact hno _ k hl _ hc (by rw [Nat.zero_or, mask_bitsOf h16]; exact hPt)
  · rw [e] at hc
    exact hb _ hc k (by rw [Nat.zero_or, mask_bitsOf h16]; exact hPt)
/-- What is not in a set. -/
def coN (n s : Nat) : Nat := sub (2 ^ n - 1) s
theorem all16 {n : Nat} (hn : n ≤ 16) : 2 ^ n - 1 < 65536 := by
  have h2 : 2 ^ n ≤ 2 ^ 16 := Nat.pow_le_pow_right (by decide) hn
  have h3 : (2 : Nat) ^ 16 = 65536 := by decide
  have h4 : 0 < 2 ^ n := Nat.pow_pos (by decide)
  omega
theorem coN_bit {n s : Nat} (hn : n ≤ 16) (hs : s < 65536) (j : Nat) : (coN n s).testBit j = (decide (j < n) && !s.testBit j) := by
  have := all16 hn
  unfold coN
  rw [testBit_sub _ _ (by omega) (by omega), testBit_firstOf]
theorem coN_lt {n s : Nat} (hn : n ≤ 16) (hs : s < 65536) : coN n s < 2 ^ n := by
  refine Nat.lt_pow_two_of_testBit _ fun j hj => ?_
  rw [coN_bit hn hs, Bool.and_eq_false_iff]
  left
  simp
  omega
theorem bit_ltN {n s j : Nat} (hs : s < 2 ^ n) (h : s.testBit j = true) : j < n := Nat.lt_of_not_le fun k => by
  rw [Nat.testBit_lt_two_pow (Nat.lt_of_lt_of_le hs (Nat.pow_le_pow_right (by decide) k))] at h
  cases h
theorem lt16N {n s : Nat} (hn : n ≤ 16) (hs : s < 2 ^ n) : s < 65536 := (cand_bits hn hs).2
theorem coN_co {n s : Nat} (hn : n ≤ 16) (hs : s < 2 ^ n) : coN n (coN n s) = s := by
  have h16 := lt16N hn hs
  refine Nat.eq_of_testBit_eq fun j => ?_
  rw [coN_bit hn (lt16N hn (coN_lt hn h16)), coN_bit hn h16]
  cases e : s.testBit j
  · by_cases h : j < n <;> simp [h]
  · have := bit_ltN hs e
    simp [this]
theorem bits_co_len {n s : Nat} (hn : n ≤ 16) (hs : s < 2 ^ n) : (bitsOf (coN n s)).length + (bitsOf s).length = n := by
  have h16 := lt16N hn hs
  have e1 : bitsOf (coN n s) = (List.range n).filter fun u => !s.testBit u := by
    refine rising_ext _ _ (bitsOf_rising _) (List.Pairwise.filter _ List.pairwise_lt_range) fun x => ?_
    rw [mem_left (lt16N hn (coN_lt hn h16)), coN_bit hn h16, List.mem_filter, List.mem_range]
    simp
  have e2 : bitsOf s = (List.range n).filter fun u => s.testBit u := by
    refine rising_ext _ _ (bitsOf_rising _) (List.Pairwise.filter _ List.pairwise_lt_range) fun x => ?_
    rw [mem_left h16, List.mem_filter, List.mem_range]
    exact ⟨fun h => ⟨bit_ltN hs h, h⟩, fun h => h.2⟩
  rw [e1, e2]
  have : ∀ (l : List Nat), (l.filter fun u => !s.testBit u).length + (l.filter fun u => s.testBit u).length = l.length := fun l => by
    induction l with
    | nil => rfl
    | cons x l ih =>
      rw [List.filter_cons, List.filter_cons]
      cases s.testBit x <;> simp <;> omega
  rw [this, List.length_range]
/-- The greatest stable set and the least cover have all together. -/
theorem max_least {P : Nat → Prop} {n s t : Nat} (hn : n ≤ 16) (h : MaxP P n s) (k : LeastP (fun x => P (coN n x)) n t) : (bitsOf s).length + (bitsOf t).length = n := by
  have a1 := bits_co_len hn h.1
  have a2 := bits_co_len hn k.1
  have h1 := (h.2.2 (coN n t) (coN_lt hn (lt16N hn k.1)) k.2.1).1
  have h2 := k.2.2 (coN n s) (coN_lt hn (lt16N hn h.1)) (by show P (coN n (coN n s)); rw [coN_co hn h.1]; exact h.2.1)
  have h3 : ¬ (bitsOf (coN n s)).length < (bitsOf t).length := fun e => h2 (.inl e)
  omega
theorem sv_stb {g : List (List Int)} (hok : GOk g) {b : Nat} (hb : ∀ x, b.testBit x = true → x < g.length) : ¬ SvM (ofG g) b b ↔ StbB (netL g) b := by
  rw [stb_bits hok hb]
  constructor
  · intro h x y hx hy
    cases e : ofG g x y
    · rfl
    · exact absurd ⟨x, hx, y, hy, e⟩ h
  · rintro h ⟨x, hx, y, hy, e⟩
    rw [h x y hx hy] at e
    cases e
theorem sv_mono {E : Nat → Nat → Bool} {a b : Nat} (h : ∀ x, a.testBit x = true → b.testBit x = true) (k : ¬ SvM E b b) : ¬ SvM E a a := fun ⟨x, hx, y, hy, e⟩ => k ⟨x, h x hx, y, h y hy, e⟩
theorem sv_zero (E : Nat → Nat → Bool) : ¬ SvM E 0 0 := fun ⟨x, hx, _⟩ => by simp at hx

end Go.Proofs.YtkppbmfliejnmaaDoor

/- Walks: isCover; the closures of bestStable and LeastCover. -/
namespace Go.Proofs.YtkppbmfliejnmaaDoor
open Go.RowKit

def StbP (E : Nat → Nat → Bool) (s : Nat) : Prop := ¬ SvM E s s
def CvrP (E : Nat → Nat → Bool) (n s : Nat) : Prop := StbP E (coN n s)
/-- What stands below the call. -/
structure SvBase (w : World) (n : Nat) (E : Nat → Nat → Bool) (xp : Option Addr) (xc ba : Nat) : Prop where
  h16 : n ≤ 16
  box : Box w ba 73 (.slice xp n xc)
  ne : NE w (.slice xp n xc) n E
  tab : Tab w
theorem SvBase.next {w w' : World} {n : Nat} {E : Nat → Nat → Bool} {xp : Option Addr} {xc ba : Nat} (h : SvBase w n E xp xc ba) (hb : Below w.heap.size w w') : SvBase w' n E xp xc ba :=
  ⟨h.h16, h.box.keep hb, h.ne.next hb, h.tab.keep hb⟩

set_option maxRecDepth 100000 in
set_option maxHeartbeats 1000000 in
theorem isCover_any (xp : Option Addr) (xc n : Nat) (y : Int) (E : Nat → Nat → Bool) (s : Nat) (hy : y = s) (hs : s < 65536) (hn : n ≤ 16) (w : World) (hx : NE w (.slice xp n xc) n E) (hT : Tab w) :
    Calls Tryd.prog 93 #[.slice xp n xc, .int .u32 y] w fun e w' => e = .returned (.bool (dec (CvrP E n s))) ∧ Below w.heap.size w w' := by
  subst hy
  obtain ⟨M, hM⟩ : ∃ M, M = 2 ^ n - 1 := ⟨_, rfl⟩
  have hM16 : M < 65536 := by rw [hM]; exact all16 hn
  have hand : bits BinOp.andNot IntKind.u32 (M : Int) (s : Int) = ((sub M s : Nat) : Int) := u32_andNot_nat M s (by omega) (by omega)
  obtain ⟨t, ht⟩ : ∃ t, t = sub M s := ⟨_, rfl⟩
  have hco : t = coN n s := by rw [ht, hM]; rfl
  rw [← ht] at hand
  have ht16 : t < 65536 := by rw [ht]; exact sub_lt16 _ _ hM16
  have ALL : Hid (∀ (wz : World), Calls Tryd.prog 106 #[.slice xp n xc] wz fun e w' => e = .returned (.int .u32 (M : Int)) ∧ wz = w') := Lib.hid fun wz => by rw [hM]; exact all_any xp n xc (by omega) wz
  have STB : Hid (Calls Tryd.prog 96 #[.slice xp n xc, .int .u32 (t : Int)] w fun e w' => e = .returned (.bool (dec (CvrP E n s))) ∧ Below w.heap.size w w') := Lib.hid (by
    have := isStable_any (.slice xp n xc) _ n E t rfl ht16 (fun i hi => by rw [hco] at hi; exact bit_ltN (coN_lt hn hs) hi) w hx hT
    rw [hco] at this ⊢
    exact this)
  clear hx hT hM ht hco
  go_enter Tryd.func93, Tryd.ntmps93
  go_wp2_with (first
    | (go_at_call 106; refine (ALL.out _).mono ?_; rintro e w2 ⟨rfl, rfl⟩)
    | (go_at_call 96; refine STB.out.mono ?_; rintro e w3 ⟨rfl, hb3⟩))
  go_ret
  exact ⟨rfl, hb3⟩

/-- The call's own variable: what was found. -/
structure BsW (wB : World) (ba : Nat) (z : Int) (w : World) : Prop where
  bel : Below wB.heap.size wB w
  fnd : Box w wB.heap.size 70 (.int .u32 z)
theorem BsW.next {wB w w' : World} {ba : Nat} {z : Int} (h : BsW wB ba z w) (hb : Below w.heap.size w w') : BsW wB ba z w' :=
  ⟨h.bel.trans (hb.mono h.bel.size), h.fnd.keep hb⟩
theorem BsW.set {wB w : World} {ba : Nat} {z : Int} (h : BsW wB ba z w) (y : Int) : BsW wB ba y (w.setCell ⟨wB.heap.size, 0, none⟩ (.int .u32 y)) :=
  ⟨h.bel.setCell (Nat.le_refl _) _, h.fnd.set _⟩
set_option maxRecDepth 100000 in
set_option maxHeartbeats 1000000 in
theorem eachBs_any (y : Int) (s : Nat) (hy : y = s) (n : Nat) (E : Nat → Nat → Bool) (xp : Option Addr) (xc ba : Nat) (hs : s < 2 ^ n) (wB w : World) (z : Int) (hB : SvBase wB n E xp xc ba) (hW : BsW wB ba z w) :
    Calls Tryd.prog 179 #[.int .u32 y, .pointer (some ⟨wB.heap.size, 0, none⟩), .pointer (some ⟨ba, 0, none⟩)] w fun e w' => e = .returned (.bool (dec (StbP E s))) ∧ BsW wB ba s w' := by
  subst hy
  have c1 := hW.fnd.cell
  have f1 := hW.fnd.free
  have hW2 := hW.set (s : Int)
  obtain ⟨w2, hw2⟩ : ∃ w2, w2 = w.setCell ⟨wB.heap.size, 0, none⟩ (.int .u32 (s : Int)) := ⟨_, rfl⟩
  rw [← hw2] at hW2
  have HW2 := Lib.hid hW2
  have hB2 := hB.next hW2.bel
  have c2 := hB2.box.cell
  have HB2 := Lib.hid hB2
  have HS := Lib.hid hs
  have STB : Hid (Calls Tryd.prog 96 #[.slice xp n xc, .int .u32 (s : Int)] w2 fun e w' => e = .returned (.bool (dec (StbP E s))) ∧ Below w2.heap.size w2 w') := Lib.hid
    (isStable_any (.slice xp n xc) _ n E s rfl (lt16N hB.h16 hs) (fun i hi => bit_ltN hs hi) w2 hB2.ne hB2.tab)
  clear hB hW hs hW2 hB2
  go_enter Tryd.func179, Tryd.ntmps179
  go_upto_region 2 with fail
  rw [← hw2]
  clear hw2 c1 f1
  go_wp2_with (go_at_call 96; refine STB.out.mono ?_; rintro e w3 ⟨rfl, hb3⟩)
  go_ret
  exact ⟨rfl, HW2.out.next hb3⟩

set_option maxRecDepth 100000 in
set_option maxHeartbeats 1000000 in
theorem fitsLc_any (y : Int) (s : Nat) (hy : y = s) (n : Nat) (E : Nat → Nat → Bool) (xp : Option Addr) (xc ba : Nat) (hs : s < 2 ^ n) (w : World) (h : SvBase w n E xp xc ba) :
    Calls Tryd.prog 92 #[.int .u32 y, .pointer (some ⟨ba, 0, none⟩)] w fun e w' => e = .returned (.bool (dec (CvrP E n s))) ∧ Below w.heap.size w w' := by
  subst hy
  have hbx := h.box.cell
  have H := Lib.hid h
  have HS := Lib.hid hs
  clear h hs
  go_enter Tryd.func92, Tryd.ntmps92
  go_wp2_with (go_at_call 93; refine (isCover_any xp xc n _ E s rfl (lt16N H.out.h16 HS.out) H.out.h16 _ H.out.ne H.out.tab).mono ?_; rintro e w3 ⟨rfl, hb3⟩)
  go_ret
  exact ⟨rfl, hb3⟩
structure LcW (wB : World) (ba : Nat) (z : Int) (w : World) : Prop where
  bel : Below wB.heap.size wB w
  fit : Box w wB.heap.size 79 (.func (.func 92) #[] #[.pointer (some ⟨ba, 0, none⟩)])
  fnd : Box w (wB.heap.size + 1) 70 (.int .u32 z)
theorem LcW.next {wB w w' : World} {ba : Nat} {z : Int} (h : LcW wB ba z w) (hb : Below w.heap.size w w') : LcW wB ba z w' :=
  ⟨h.bel.trans (hb.mono h.bel.size), h.fit.keep hb, h.fnd.keep hb⟩
theorem LcW.set {wB w : World} {ba : Nat} {z : Int} (h : LcW wB ba z w) (y : Int) : LcW wB ba y (w.setCell ⟨wB.heap.size + 1, 0, none⟩ (.int .u32 y)) :=
  ⟨h.bel.setCell (by show wB.heap.size ≤ wB.heap.size + 1; omega) _, h.fit.setOther (by show wB.heap.size ≠ wB.heap.size + 1; omega) _, h.fnd.set _⟩
set_option maxRecDepth 100000 in
set_option maxHeartbeats 1000000 in
theorem eachLc_any (y : Int) (s : Nat) (hy : y = s) (n : Nat) (E : Nat → Nat → Bool) (xp : Option Addr) (xc ba : Nat) (hs : s < 2 ^ n) (wB w : World) (z : Int) (hB : SvBase wB n E xp xc ba) (hW : LcW wB ba z w) :
    Calls Tryd.prog 181 #[.int .u32 y, .pointer (some ⟨wB.heap.size + 1, 0, none⟩), .pointer (some ⟨wB.heap.size, 0, none⟩)] w fun e w' => e = .returned (.bool (dec (CvrP E n s))) ∧ LcW wB ba s w' := by
  subst hy
  have c1 := hW.fnd.cell
  have f1 := hW.fnd.free
  have HB := Lib.hid hB
  have HW2 := Lib.hid (hW.set (s : Int))
  have c2 := HW2.out.fit.cell
  have HS := Lib.hid hs
  clear hB hW hs
  go_enter Tryd.func181, Tryd.ntmps181
  go_wp2_with (go_at_call 92; refine (fitsLc_any _ s rfl n E xp xc ba HS.out _ (HB.out.next HW2.out.bel)).mono ?_; rintro e w3 ⟨rfl, hb3⟩)
  go_ret
  exact ⟨rfl, HW2.out.next hb3⟩

end Go.Proofs.YtkppbmfliejnmaaDoor
