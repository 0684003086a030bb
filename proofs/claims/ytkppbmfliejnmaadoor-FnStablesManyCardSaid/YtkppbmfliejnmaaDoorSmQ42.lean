/- Plain facts: lasting stable sets, counts of induced graphs. -/
import Derived.Test.YtkppbmfliejnmaaDoorSmQ26
import Derived.Test.YtkppbmfliejnmaaDoorSmQ30
import Derived.Test.YtkppbmfliejnmaaDoorSmQ41
import Derived.Test.YtkppbmfliejnmaaDoorSmQ12
import Derived.Deep.RegionWith
import Derived.Test.YtkppbmfliejnmaaDoorSmQ10
import Derived.Test.YtkppbmfliejnmaaDoorSmQ11
import Derived.Test.YtkppbmfliejnmaaDoorSmQ7
import Derived.Test.YtkppbmfliejnmaaDoorSmQ15
namespace Go.Proofs.YtkppbmfliejnmaaDoor
open Go.RowKit

theorem bit_nat (T : List Nat) (j : Nat) : (mask (natInts T)).testBit j = true ↔ j ∈ T := by
  rw [testBit_mask, List.any_eq_true]
  constructor
  · rintro ⟨x, hx, he⟩
    obtain ⟨i, hi, rfl⟩ := mem_natInts.1 hx
    have : i = j := by simpa using he
    exact this ▸ hi
  · intro h
    exact ⟨(j : Int), mem_natInts.2 ⟨j, h, rfl⟩, by simp⟩
theorem ofG_symE {g : List (List Int)} (hok : GOk g) (a b : Nat) : ofG g a b = ofG g b a := by
  rw [Bool.eq_iff_iff]
  exact ⟨ofG_sym hok a b, ofG_sym hok b a⟩
theorem set_nat {n : Nat} {T : List Nat} (h1 : T.Pairwise (· < ·)) (h2 : ∀ x ∈ T, x < n) : SetIn n (natInts T) := by
  refine ⟨fun x hx => ?_, ?_⟩
  · obtain ⟨i, hi, rfl⟩ := mem_natInts.1 hx
    have := h2 i hi
    omega
  · unfold natInts
    rw [List.pairwise_map]
    exact h1.imp fun h => by omega
theorem stb_bits {g : List (List Int)} (hok : GOk g) {b : Nat} (hb : ∀ x, b.testBit x = true → x < g.length) : StbB (netL g) b ↔ ∀ x y, b.testBit x = true → b.testBit y = true → ofG g x y = false := by
  constructor
  · intro h x y hx hy
    have h1 := h x (by rw [netL_len]; exact hb x hx) hx
    cases e : ofG g x y
    · rfl
    · have h2 : ((netL g).getD x 0 &&& b).testBit y = true := by
        rw [Nat.testBit_and, (adG_bit hok (hb x hx) y).2 e, hy]; rfl
      rw [h1] at h2
      simp at h2
  · intro h v hv hvb
    refine Nat.eq_of_testBit_eq fun j => ?_
    rw [Nat.testBit_and, Nat.zero_testBit, Bool.and_eq_false_iff]
    cases e : b.testBit j
    · exact .inr rfl
    · left
      rw [Bool.eq_false_iff]
      intro k
      have h1 := (adG_bit hok (hb v hvb) j).1 k
      have h2 := h v j hvb e
      have : adG g v j = ofG g v j := rfl
      rw [this, h2] at h1
      cases h1
theorem stb_nat {g : List (List Int)} (hok : GOk g) {T : List Nat} (hT : ∀ x ∈ T, x < g.length) : StbB (netL g) (mask (natInts T)) ↔ ∀ x ∈ T, ∀ y ∈ T, ofG g x y = false := by
  rw [stb_bits hok fun x hx => hT x ((bit_nat T x).1 hx)]
  exact ⟨fun h x hx y hy => h x y ((bit_nat T x).2 hx) ((bit_nat T y).2 hy), fun h x y hx hy => h x ((bit_nat T x).1 hx) y ((bit_nat T y).1 hy)⟩
section
variable {g : List (List Int)}
theorem ofH_iff {a b : Nat} (ha : a < g.length) (hb : b < g.length) : ofG (matG g.length (compE (ofG g))) a b = true ↔ a ≠ b ∧ ofG g a b = false := by
  rw [ofG_matG ha hb]
  unfold compE
  simp
/-- What lasts is stable and rules all. -/
theorem last_ok (hok : GOk g) {T : List Nat} (h : T ∈ clsP g.length (ofG (matG g.length (compE (ofG g))))) : StbS g (natInts T) ∧ RulS g (natInts T) := by
  obtain ⟨h1, h2⟩ := clsP_mem h
  obtain ⟨U, hU, hM⟩ := clF_sound _ _ _ _ T h
  obtain rfl : T = U := by simpa using hU
  have hset := set_nat h1 h2
  refine ⟨⟨hok, hset, (stb_nat hok h2).2 fun x hx y hy => ?_⟩, hok, hset, fun u hu => ?_⟩
  · obtain ⟨i, hi, rfl⟩ := List.getElem_of_mem hx
    obtain ⟨j, hj, rfl⟩ := List.getElem_of_mem hy
    have hp := List.pairwise_iff_getElem.1 hM.clq
    rcases Nat.lt_trichotomy i j with hij | rfl | hij
    · exact ((ofH_iff (h2 _ hx) (h2 _ hy)).1 (hp i j hi hj hij)).2
    · exact ofG_irr hok _
    · rw [ofG_symE hok]
      exact ((ofH_iff (h2 _ hy) (h2 _ hx)).1 (hp j i hj hi hij)).2
  · by_cases hin : u ∈ T
    · exact .inl ((bit_nat T u).2 hin)
    · obtain ⟨t, ht, he⟩ := hM.most u (.inl (List.mem_range.2 hu)) hin
      refine .inr ⟨t, (bit_nat T t).2 ht, ?_⟩
      cases e : ofG g t u
      · have := (ofH_iff (h2 t ht) hu).2 ⟨fun k => hin (k ▸ ht), e⟩
        rw [he] at this
        cases this
      · rfl
/-- Each stable set is a part of one that lasts. -/
theorem last_all (hok : GOk g) {s : List Nat} (h : StbS g (natInts s)) : ∃ T ∈ clsP g.length (ofG (matG g.length (compE (ofG g)))), ∀ x ∈ s, x ∈ T := by
  have hH : GOk (matG g.length (compE (ofG g))) := gok_matG hok.pos hok.le (comp_sym (ofG_sym hok)) (comp_irr _)
  have hs : ∀ x ∈ s, x < g.length := fun x hx => by
    have := h.2.1.1 (x : Int) (mem_natInts.2 ⟨x, hx, rfl⟩)
    omega
  have hst := (stb_nat hok hs).1 h.2.2
  obtain ⟨T, hT, hin⟩ := clq_grow (n := g.length) (ofG_symE hH) (ofG_irr hH) g.length (fun x => decide (x ∈ s)) (Nat.sub_le _ _) (fun a b ha hb pa pb hab => (ofH_iff ha hb).2 ⟨by omega, hst a (by simpa using pa) b (by simpa using pb)⟩)
  exact ⟨T, hT, fun x hx => hin x (hs x hx) (by simpa using hx)⟩
theorem cnt_ind {l : List Nat} : cntL (ofG (indL g (natInts l))) (List.range l.length) = cntL (ofG g) l := by
  have e1 : cntL (ofG (indL g (natInts l))) (List.range l.length) = cntL (fun i j => ofG g (l.getD i 0) (l.getD j 0)) (List.range l.length) := by
    refine cntL_congr l.length _ (by rw [List.length_range]; omega) fun u hu v hv => ?_
    have h1 := List.mem_range.1 hu
    have h2 := List.mem_range.1 hv
    unfold indL
    rw [natInts_length, ofG_matG h1 h2, indE_nat h1 h2]
    simp [h1, h2]
  rw [e1, cntL_map (ofG g) (fun i => l.getD i 0) l.length _ (by rw [List.length_range]; omega)]
  congr 1
  refine List.ext_getElem (by simp) fun i h1 h2 => ?_
  have h3 : i < l.length := by simpa using h1
  simp [h3]
/-- The vertices that are not beside v. -/
def farL (g : List (List Int)) (v m : Nat) : List Nat := (List.range m).filter fun u => !(u == v) && !ofG g u v
theorem farL_yes {v m : Nat} (h : m ≠ v) (hE : ofG g m v = false) : farL g v (m + 1) = farL g v m ++ [m] := by
  unfold farL; rw [List.range_succ, List.filter_append]; simp [h, hE]
theorem farL_no {v m : Nat} (h : m = v ∨ ofG g m v = true) : farL g v (m + 1) = farL g v m := by
  unfold farL; rw [List.range_succ, List.filter_append]
  rcases h with h | h <;> simp [h]
theorem farL_rising (v m : Nat) : (farL g v m).Pairwise (· < ·) := List.Pairwise.filter _ List.pairwise_lt_range
theorem farL_lt {v m : Nat} : ∀ x ∈ farL g v m, x < m := fun x hx => List.mem_range.1 (List.mem_filter.1 hx).1
theorem farL_len (v m : Nat) : (farL g v m).length ≤ m := by
  have := List.length_filter_le (fun u => !(u == v) && !ofG g u v) (List.range m)
  rwa [List.length_range] at this
theorem rstN_one (v m : Nat) : rstN [(v : Int)] m = (List.range m).filter fun u => !(u == v) := by
  unfold rstN
  refine List.filter_congr fun x _ => ?_
  by_cases h : x = v
  · simp [h]
  · have : ¬ ((x : Int) = (v : Int)) := by omega
    simp [h, this]
theorem cnt_with (hok : GOk g) {v : Nat} (hv : v < g.length) : cntL (ofG g) (List.range g.length) = cntL (ofG g) (rstN [(v : Int)] g.length) + cntL (ofG g) (farL g v g.length) := by
  rw [cntL_split (ofG_symE hok) g.length (List.range g.length) (by rw [List.length_range]; omega) List.nodup_range v (List.mem_range.2 hv), rstN_one]
  congr 2
  unfold farL
  rw [List.filter_filter]
  exact List.filter_congr fun u _ => by rw [ofG_symE hok u v, Bool.and_comm]
theorem rst_one_nil {v : Nat} (hv : v < 1) : rstN [(v : Int)] 1 = [] := by
  rw [rstN_one]
  obtain rfl : v = 0 := by omega
  decide
theorem rstN_rising (xs : List Int) (m : Nat) : (rstN xs m).Pairwise (· < ·) := List.Pairwise.filter _ List.pairwise_lt_range
theorem rstN_lt {xs : List Int} {m : Nat} : ∀ x ∈ rstN xs m, x < m := fun x hx => List.mem_range.1 (List.mem_filter.1 hx).1
theorem rst_one_pos {v m : Nat} (h : 1 < m) : 1 ≤ (rstN [(v : Int)] m).length := by
  rw [rstN_one]
  obtain ⟨x, h1, h2⟩ : ∃ x, x < m ∧ x ≠ v := by
    by_cases e : v = 0
    · exact ⟨1, h, by omega⟩
    · exact ⟨0, by omega, by omega⟩
  exact List.length_pos_of_mem (a := x) (List.mem_filter.2 ⟨List.mem_range.2 h1, by simp [h2]⟩)
end

end Go.Proofs.YtkppbmfliejnmaaDoor

/- Walk: the laws' dice thrown (roll). -/
namespace Go.Proofs.YtkppbmfliejnmaaDoor
open Go.RowKit

set_option maxRecDepth 100000 in
set_option maxHeartbeats 4000000 in
theorem roll_any (v : Value) (bs : List Int) (s : Int) (hl : bs.length ≤ 4096) (w : World) (ha : ArgB w v bs) :
    Calls Tryd.prog 12 #[v, .int .u64 s] w fun e w' => ∃ db : Nat, e = .returned (.pointer (some ⟨db, 0, none⟩)) ∧ Dice w w' db bs ∧ Below w.heap.size w w' := by
  obtain ⟨p, c, e, _⟩ := id ha
  subst e
  have HA := Lib.hid ha
  clear ha
  go_enter Tryd.func12, Tryd.ntmps12
  go_upto_region 1 with fail
  go_cut [5] (fun s5 wx => ∃ h : Int, s5 = .pointer (some ⟨w.heap.size, 0, none⟩) ∧ wx = w.alloc (.cells #[.slice p bs.length c, .int .i64 0, .int .u64 h] 66))
  case first =>
    go_wp2
    go_meet
    exact ⟨_, rfl, rfl⟩
  case rest =>
  obtain ⟨h, rfl, rfl⟩ := hcut
  go_wp2
  go_loopw [6] (fun i wr => ∃ (k : Nat) (z : Int), i = .int .i64 k ∧ k ≤ bs.length ∧ BoxD wr w.heap.size (.slice p bs.length c) (.int .i64 0) (.int .u64 z) ∧ Below w.heap.size w wr) (fun i _ => bs.length - (intOf i).toNat)
  case atStart => exact ⟨0, h, rfl, Nat.zero_le _, BoxD.new _ _ _ _, below_alloc _ _⟩
  case round =>
    obtain ⟨k, z, rfl, hk, hb, hbel⟩ := hrel
    have HB := Lib.hid hb
    have HBEL := Lib.hid hbel
    have c2 := hb.c2
    have f2 := hb.free 2
    clear hb hbel
    by_cases hlt : k < bs.length
    · obtain ⟨xb, xo, rfl, hcx, hx0, hx1⟩ := (HA.out.below HBEL.out).get hlt
      generalize bs[k] = x at hcx hx0 hx1
      go_upto_region 5 with fail
      go_region_with (fail)
      all_goals go_wp2
      all_goals go_roundw
      all_goals first
        | exact ⟨k + 1, _, by go_num, by omega, (HB.out.keep (below_dN (Below.refl _ _) _)).s2 _, (HBEL.out.trans ((below_dN (Below.refl wr.heap.size wr) _).mono HBEL.out.size)).setCell (p := ⟨w.heap.size, 2, none⟩) (Nat.le_refl _) _⟩
        | (simp [intOf]; omega)
    · obtain rfl : k = bs.length := by omega
      go_wp2
      go_ret
      exact ⟨_, rfl, ⟨⟨_, 0, z, HB.out, Nat.zero_le _, HA.out⟩, hl, Nat.le_refl _, HBEL.out⟩, HBEL.out⟩

end Go.Proofs.YtkppbmfliejnmaaDoor

/- Walks: the reference's complement of a right graph. -/
namespace Go.Proofs.YtkppbmfliejnmaaDoor
open Go.RowKit

theorem symE_comp {g : List (List Int)} (hg : GOk g) : SymE g.length (compE (ofG g)) where
  sym := fun r j _ _ => by
    cases h : compE (ofG g) r j with
    | true => exact (comp_sym (ofG_sym hg) r j h).symm
    | false =>
      cases h2 : compE (ofG g) j r with
      | false => rfl
      | true => rw [comp_sym (ofG_sym hg) j r h2] at h; exact absurd h (by decide)
  irr := fun r _ => comp_irr _ r

set_option maxRecDepth 100000 in
set_option maxHeartbeats 4000000 in
theorem l2Other_any (v : Value) (g : List (List Int)) (hok : GOk g) (w : World) (hg : Gr w v g) :
    Calls Tryd.prog 86 #[v] w fun e w' => ∃ u, e = .returned u ∧ SG w' w.heap.size u (matG g.length (compE (ofG g))) ∧ Below w.heap.size w w' := by
  have hg0 := hg
  obtain ⟨u, rfl, hr⟩ := hg
  obtain ⟨gp, gc, rfl, _⟩ := hr.shape
  obtain ⟨W0, hW0⟩ : ∃ W0, W0 = (w.alloc (.cells #[.slice gp g.length gc] 29)).alloc (.cells #[.slice none 0 0] 29) := ⟨_, rfl⟩
  have hb0 : Below w.heap.size w W0 := by rw [hW0]; exact below_alloc2 _ _ _
  have hbg : Box W0 w.heap.size 29 (.slice gp g.length gc) := by rw [hW0]; exact (Box.new _ _ _).alloc _
  have hbn : Box W0 (w.heap.size + 1) 29 (.slice none 0 0) := by
    have := Box.new (w.alloc (.cells #[.slice gp g.length gc] 29)) (.slice none 0 0) 29
    rw [size_alloc] at this
    rw [hW0]; exact this
  have HW0 := Lib.hid hW0
  have HB0 := Lib.hid hb0
  have HBG := Lib.hid hbg
  have HBN := Lib.hid hbn
  have HG := Lib.hid (hg0.below hb0)
  have sz0 : W0.heap.size = w.heap.size + 2 := by rw [hW0, size_alloc, size_alloc]
  have h16 := hok.le
  have HSE := Lib.hid (symE_comp hok)
  have HOK := Lib.hid hok
  have cg0 := hbg.cell
  clear hr hg0 hb0 hbg hbn hok
  go_enter Tryd.func86, Tryd.ntmps86
  go_upto_region 1 with fail
  rw [← hW0]
  clear hW0
  go_upto_region 2 with (first
    | (go_at_call 157; refine (l1Empty_any _ g.length rfl (by omega) _).mono ?_; rintro e w3 ⟨u3, rfl, hs3, hb3⟩; obtain ⟨p, c, rfl⟩ := hs3.shape; rw [List.length_replicate] at hs3 ⊢)
    | (go_at_call 132; refine (l1Size_any _ g _ HG.out).mono ?_; rintro e w2 ⟨rfl, hb2⟩))
  have START : Hid (L2I W0 (w3.alloc (.cells #[.slice p g.length c] 29)) w3.heap.size p c g.length (matG g.length (uptoE (compE (ofG g)) 0 0))) := Lib.hid
    ⟨by rw [upto_start]; exact (hs3.base hb2.size).below (below_alloc _ _), (hb2.trans (hb3.mono hb2.size)).alloc (Nat.le_trans hb2.size hb3.size) _, Box.new _ _ _, fun k hk => ⟨Nat.le_trans hb2.size (hs3.lt k hk).1, (hs3.lt k hk).2⟩, Nat.le_trans hb2.size hb3.size⟩
  clear hs3 hb3 hb2 cg0
  go_wp2_with fail
  go_loopw [4] (fun i wr => ∃ k : Nat, k ≤ g.length ∧ i = .int .i64 k ∧ L2I W0 wr w3.heap.size p c g.length (matG g.length (uptoE (compE (ofG g)) k 0))) (fun i _ => g.length - (intOf i).toNat)
  case atStart => exact ⟨0, Nat.zero_le _, rfl, START.out⟩
  case round =>
    clear START
    obtain ⟨i, hi, rfl, hI⟩ := hrel
    have HI := Lib.hid hI
    clear hI
    have hcg := HI.out.bel.at (by omega) HBG.out.cell
    by_cases hlt : i < g.length
    · go_wp2_with (go_at_call 132; refine (l1Size_any _ g _ (HG.out.below HI.out.bel)).mono ?_; rintro e w4 ⟨rfl, hb4⟩; have HI4 := Lib.hid (HI.out.next hb4); clear hb4)
      clear hcg HI
      go_loopw [5] (fun i' wr => ∃ k : Nat, k ≤ i ∧ i' = .int .i64 k ∧ L2I W0 wr w3.heap.size p c g.length (matG g.length (uptoE (compE (ofG g)) i k))) (fun i' _ => i - (intOf i').toNat)
      case atStart => exact ⟨0, Nat.zero_le _, rfl, HI4.out⟩
      case round =>
        clear HI4
        obtain ⟨k, hk, rfl, hI⟩ := hrel
        have HI := Lib.hid hI
        clear hI
        by_cases hlt2 : k < i
        · have hcg := HI.out.bel.at (by omega) HBG.out.cell
          have hedge : Hid (dec ((i : Int) ∈ row g k) = !compE (ofG g) i k) := Lib.hid (by
            have h1 : ofG g i k = ofG g k i := by
              cases h : ofG g k i with
              | true => exact ofG_sym HOK.out _ _ h
              | false =>
                cases h2 : ofG g i k with
                | false => rfl
                | true => rw [ofG_sym HOK.out _ _ h2] at h; exact absurd h (by decide)
            have h2 : (i == k) = false := by simp; omega
            unfold compE
            rw [h2, h1]
            simp [ofG, decide_dec])
          have hkg : k < g.length := by omega
          have hml := matG_length g.length (uptoE (compE (ofG g)) i k)
          cases hE' : compE (ofG g) i k
          · have HD := Lib.hid (show dec ((i : Int) ∈ row g k) = true by rw [hedge.out, hE']; rfl)
            clear hedge
            go_wp2_with (go_at_call 109; refine (l1Edge_any _ g _ _ k i rfl rfl hkg _ (HG.out.below HI.out.bel)).mono ?_; rintro e w5 ⟨he, hb5⟩; rw [HD.out] at he; subst he; have HI5 := Lib.hid (HI.out.next hb5); clear hb5)
            go_roundw
            case rel => exact ⟨k + 1, by omega, by go_num, by rw [← upto_no HSE.out (by omega) hlt2 hE']; exact HI5.out⟩
            case measure => simp [intOf]; omega
          · have HD := Lib.hid (show dec ((i : Int) ∈ row g k) = false by rw [hedge.out, hE']; rfl)
            clear hedge
            go_wp2_with (first
              | (go_at_call 154; refine (Hlk.out _ rfl).mono ?_; rintro e w6 ⟨rfl, hs6, hg6⟩; have hbx := HI5.out.box.grown hg6 (fun e => by have := (HI5.out.own _ e.symm).2; omega); have hc6 := hbx.cell; have hf6 := hbx.free)
              | (go_at_call 109; refine (l1Edge_any _ g _ _ k i rfl rfl hkg _ (HG.out.below HI.out.bel)).mono ?_; rintro e w5 ⟨he, hb5⟩; rw [HD.out] at he; subst he; have HI5 := Lib.hid (HI.out.next hb5); clear hb5; have hb5 := HI5.out.box.cell; have hf5 := HI5.out.box.free; (have hlk : ∀ wz, wz = w5 → Calls Tryd.prog 154 #[.agg #[.slice p g.length c], .int .i64 k, .int .i64 i] wz fun e w' => e = .returned (.agg #[.slice p g.length c]) ∧ SG w' W0.heap.size (.agg #[.slice p g.length c]) (matG g.length (uptoE (compE (ofG g)) i (k + 1))) ∧ wz.grownBy w' (Value.slice p g.length c).ownBlock := (by
                  rintro wz rfl
                  have := l1Link_any p c (matG g.length (uptoE (compE (ofG g)) i k)) k i k i W0.heap.size rfl rfl (by omega) (by omega) (fun j _ => Nat.le_trans (matG_row_le j) (by omega)) wz (by rw [hml]; exact HI5.out.sg)
                  rw [hml, upto_yes HSE.out (by omega) hlt2 hE'] at this
                  exact this)); have Hlk := Lib.hid hlk; clear hlk))
            go_roundw
            case rel => exact ⟨k + 1, by omega, by go_num, HI5.out.link hs6 hg6⟩
            case measure => simp [intOf]; omega
        · obtain rfl : k = i := by omega
          go_wp2
          go_roundw
          case rel => exact ⟨k + 1, by omega, by go_num, by rw [← upto_row HSE.out]; exact HI.out⟩
          case measure => simp [intOf]; omega
    · obtain rfl : i = g.length := by omega
      go_wp2_with (go_at_call 132; refine (l1Size_any _ g _ (HG.out.below HI.out.bel)).mono ?_; rintro e w4 ⟨rfl, hb4⟩; have HI4 := Lib.hid (HI.out.next hb4); clear hb4; have hb5 := HI4.out.box.cell; have hbn := HI4.out.bel.at (by omega) HBN.out.cell; have hbf := (HI4.out.bel.frozen (p := ⟨w.heap.size + 1, 0, none⟩) (by show w.heap.size + 1 < _; omega)).trans HBN.out.free)
      have hbn2 := HBN.out.below HI4.out.bel (by omega)
      refine bodyPost_ret (v := .agg #[.slice p g.length c]) (by simp [results, Tryd.results86, go_sem, hbn]) rfl ⟨_, rfl, ?_, ?_⟩
      · have hs := (HI4.out.sg.setBox hbn2 (.slice p g.length c)).base (base' := w.heap.size) (by omega)
        rw [upto_end] at hs
        exact hs
      · exact (HB0.out.trans (HI4.out.bel.mono HB0.out.size)).setCell (by show w.heap.size ≤ w.heap.size + 1; omega) _


set_option maxRecDepth 100000 in
set_option maxHeartbeats 2000000 in
theorem specComplement_yes (v : Value) (g : List (List Int)) (hok : GOk g) (w : World) (hg : Gr w v g) :
    Calls Tryd.prog 14 #[v] w fun e w' => ∃ u, e = .returned (.tuple #[u, .bool true]) ∧ SG w' w.heap.size u (matG g.length (compE (ofG g))) ∧ Below w.heap.size w w' := by
  have hg0 := hg
  obtain ⟨u, rfl, hr⟩ := hg
  obtain ⟨gp, gc, rfl, _⟩ := hr.shape
  have hbA := Lib.hid (below_alloc2 w (.cells #[.slice gp g.length gc] 29) (.cells #[.slice none 0 0] 29))
  have BX := Lib.hid ((Box.new w (.slice gp g.length gc) 29).alloc (.cells #[.slice none 0 0] 29))
  have BN : Hid (Box ((w.alloc (.cells #[.slice gp g.length gc] 29)).alloc (.cells #[.slice none 0 0] 29)) (w.heap.size + 1) 29 (.slice none 0 0)) := by
    have := Box.new (w.alloc (.cells #[.slice gp g.length gc] 29)) (.slice none 0 0) 29
    rw [size_alloc] at this
    exact Lib.hid this
  have HG := Lib.hid (hg0.below hbA.out)
  have hd := dec_true hok
  have HOK := Lib.hid hok
  clear hr hg0 hok
  go_enter Tryd.func14, Tryd.ntmps14
  go_wp2_with (first
    | (go_at_call 73; refine (specGraphOk_any _ g _ HG.out).mono ?_; rintro e w2 ⟨he, hb2⟩; rw [hd] at he; subst he; have hbx := (BX.out.keep hb2).cell)
    | (go_at_call 86; refine (l2Other_any _ g HOK.out _ (HG.out.below hb2)).mono ?_; rintro e w3 ⟨u3, rfl, hs3, hb3⟩; obtain ⟨p3, c3, rfl⟩ := hs3.shape; have hbn := (BN.out.keep hb2).keep hb3; obtain ⟨hnc, hnf, hnl, hnB⟩ := hbn))
  have h0 := hbA.out.size
  have h2 := hb2.size
  rw [size_alloc, size_alloc] at h2
  refine bodyPost_ret (v := .tuple #[.agg #[.slice p3 (matG g.length (compE (ofG g))).length c3], .bool true]) (by simp [results, Tryd.results14, go_sem, hnc]) rfl ⟨_, rfl, ?_, ?_⟩
  · exact (hs3.setBox ⟨hnc, hnf, hnl, hnB⟩ _).base (by omega)
  · exact ((hbA.out.trans (hb2.mono hbA.out.size)).trans (hb3.mono (Nat.le_trans hbA.out.size hb2.size))).setCell (by show w.heap.size ≤ w.heap.size + 1; omega) _

end Go.Proofs.YtkppbmfliejnmaaDoor

/- Walks: a copy of a graph; the neighbours that are left. -/
namespace Go.Proofs.YtkppbmfliejnmaaDoor
open Go.RowKit

theorem box_stepB {w wr wc w7 : World} {B k b7 c8 : Nat} {ov x rv : Value} {vals : List Value}
    (hbel : Below B w wr) (hsz : B + 2 ≤ wr.heap.size) (hbc : Below wr.heap.size wr wc)
    (hb2 : Box wr B 29 x) (hb3 : Box wr (B + 1) 29 ov) (hown : wr.ownsRow (B + 2) 33 1 ov k vals)
    (hown7 : w7.ownsRow (B + 2) 33 1 (.slice (some ⟨b7, 0, none⟩) (k + 1) c8) (k + 1) (vals ++ [rv])) (hg7 : wc.grownBy w7 ov.ownBlock) :
    ∃ W, W = w7.setCell ⟨B + 1, 0, none⟩ (.slice (some ⟨b7, 0, none⟩) (k + 1) c8) ∧
      Below B w W ∧ B + 2 ≤ W.heap.size ∧ Box W B 29 x ∧ Box W (B + 1) 29 (.slice (some ⟨b7, 0, none⟩) (k + 1) c8) ∧ W.ownsRow (B + 2) 33 1 (.slice (some ⟨b7, 0, none⟩) (k + 1) c8) (k + 1) (vals ++ [rv]) ∧
      (∀ base size n v (xs : List Value), wc.ownsRow base 2 size v n xs → W.ownsRow base 2 size v n xs) := by
  have hownc := ownsRow_below hown hbc
  have hszc := hbc.size
  have hsz7 := hg7.size
  have hb7 : Below (B + 2) wc w7 := below_grown (Below.refl _ _) hownc hg7 (Nat.le_refl _) (by omega)
  have hb37 : Box w7 (B + 1) 29 ov := (hb3.keep hbc).below hb7 (by omega)
  have hb9 : Below (B + 1) w7 (w7.setCell ⟨B + 1, 0, none⟩ (.slice (some ⟨b7, 0, none⟩) (k + 1) c8)) := (Below.refl _ _).setCell (by show B + 1 ≤ B + 1; omega) _
  have hall : Below (B + 1) wr (w7.setCell ⟨B + 1, 0, none⟩ (.slice (some ⟨b7, 0, none⟩) (k + 1) c8)) := ((hbc.mono (by omega)).trans (hb7.mono (by omega))).trans hb9
  refine ⟨_, rfl, hbel.trans (hall.mono (by omega)), by have := hall.size; omega, hb2.below hall (by omega), hb37.set _, ownsRow_setBox hown7 hb37 (by decide) _, fun base size n v xs h => ?_⟩
  exact ownsRow_setBox (ownsRow_other h hownc hg7 (by decide)) hb37 (by decide) _

theorem three_boxes (w : World) (u : Value) : ∃ W, W = ((w.alloc (.cells #[u] 29)).alloc (.cells #[.slice none 0 0] 29)).alloc (.cells #[.slice none 0 0] 29) ∧ Below w.heap.size w W ∧ W.heap.size = w.heap.size + 3 ∧
    Box W w.heap.size 29 u ∧ Box W (w.heap.size + 1) 29 (.slice none 0 0) ∧ Box W (w.heap.size + 1 + 1) 29 (.slice none 0 0) := by
  refine ⟨_, rfl, below_alloc3 _ _ _ _, by rw [size_alloc, size_alloc, size_alloc], ((Box.new w _ _).alloc _).alloc _, ?_, ?_⟩
  · have := (Box.new (w.alloc (.cells #[u] 29)) (.slice none 0 0) 29).alloc (.cells #[.slice none 0 0] 29)
    rw [size_alloc] at this
    exact this
  · have := Box.new ((w.alloc (.cells #[u] 29)).alloc (.cells #[.slice none 0 0] 29)) (.slice none 0 0) 29
    rw [size_alloc, size_alloc] at this
    exact this

set_option maxRecDepth 100000 in
set_option maxHeartbeats 4000000 in
theorem l1CopyGraph_any (v : Value) (g : List (List Int)) (hl : g.length ≤ 1000) (hrl : ∀ j, (row g j).length ≤ 1000) (w : World) (hg : Gr w v g) :
    Calls Tryd.prog 216 #[v] w fun e w' => ∃ u, e = .returned u ∧ SG w' w.heap.size u g ∧ Below w.heap.size w w' := by
  obtain ⟨u, rfl, hr⟩ := hg
  obtain ⟨p, c, rfl, _⟩ := hr.shape
  have START := Lib.hid (three_boxes w (.slice p g.length c))
  have HR := Lib.hid hr
  have HRL := Lib.hid hrl
  clear hr hrl
  go_enter Tryd.func216, Tryd.ntmps216
  go_upto_region 3 with fail
  go_loopw [4] (fun i wr => ∃ (k : Nat) (ov : Value) (vals : List Value), k ≤ g.length ∧ i = .int .i64 k ∧ Below w.heap.size w wr ∧ Below (w.heap.size + 1) wr wr ∧ w.heap.size + 1 + 2 ≤ wr.heap.size ∧ Box wr w.heap.size 29 (.slice p g.length c) ∧
      Box wr (w.heap.size + 1) 29 (.slice none 0 0) ∧ Box wr (w.heap.size + 1 + 1) 29 ov ∧ wr.ownsRow (w.heap.size + 1 + 2) 33 1 ov k vals ∧ vals.length = k ∧
      ∀ j, j < k → wr.ownsRow (w.heap.size + 1 + 2) 2 1 (vals.getD j undef) (row g j).length ((row g j).map (Value.int .i64)))
    (fun i _ => g.length - (intOf i).toNat)
  case atStart =>
    obtain ⟨W, rfl, h1, h2, h3, h4, h5⟩ := START.out
    exact ⟨0, _, [], Nat.zero_le _, rfl, h1, Below.refl _ _, by omega, h3, h4, h5, World.ownsRow_nil _ _ _ _, rfl, fun j hj => by omega⟩
  case round =>
    obtain ⟨k, ov, vals, hk, rfl, hbel, _, hsz, hbx, hb2, hb3, hown, hvl, hrows⟩ := hrel
    have Hvl := Lib.hid hvl
    have Hrows := Lib.hid hrows
    have Hb2 := Lib.hid hb2
    have Hb3 := Lib.hid hb3
    have Hbx := Lib.hid hbx
    have Hown := Lib.hid hown
    have cbx := hbx.cell
    obtain ⟨p9, c9, rfl⟩ : ∃ p c, ov = .slice p k c := by
      rcases hown.2 with ⟨h1, h2⟩ | ⟨g1, cap, cur, h1, _⟩
      · exact ⟨none, 0, by rw [h1, h2]⟩
      · exact ⟨_, _, h1⟩
    clear hvl hrows hb3 hb2 hown hbx
    by_cases hlt : k < g.length
    · obtain ⟨b, o, rp, rc, rfl, hcell, hnums⟩ := (HR.out.below hbel).get hlt
      change wr.cell? _ = some (.slice rp (row g k).length rc) at hcell
      change Nums wr _ _ (.slice rp (row g k).length rc) (row g k) at hnums
      have Hnums := Lib.hid hnums
      obtain ⟨c3, f3, _, _⟩ := Hb3.out
      obtain ⟨m, hm⟩ : ∃ m, m = (row g k).length := ⟨_, rfl⟩
      have Hm := Lib.hid hm
      have hrk := HRL.out k
      rw [← hm] at hcell Hnums hrk
      clear hnums hm
      go_upto_region 5 with fail
      go_region_law (first
        | (go_simp; go_at_call 200; refine (l1Copy_any _ m ((row g k).map (Value.int .i64)) (fun x hx => by obtain ⟨y, _, rfl⟩ := List.mem_map.1 hx; rfl) (by rw [List.length_map]; exact Hm.out.symm) _ (Sl.below (show Sl wr 2 (.slice rp m rc) m _ from (by have h := Hnums.out; unfold Nums at h; rw [← Hm.out] at h; exact h)) (below_dN (Below.refl _ _) 1))).mono ?_; rintro e w5 ⟨rv, rfl, hown5, hb5⟩; obtain ⟨rvp, rvc, hrv⟩ : ∃ p c, rv = .slice p m c := (by rcases hown5.2 with ⟨rfl, h0⟩ | ⟨b, c, _, rfl, _⟩; exact ⟨none, 0, by rw [h0]⟩; exact ⟨_, _, rfl⟩); subst hrv; have hb5' : Below wr.heap.size wr w5 := ⟨hb5.os, hb5.tape, hb5.output, hb5.size, hb5.block⟩; have hown5' : w5.ownsRow wr.heap.size 2 1 (.slice rvp m rvc) m ((row g k).map (Value.int .i64)) := hown5; have hownc := ownsRow_below Hown.out hb5'; have hs5 := hb5'.size; have hbx5 := hb5'.at' c3; have hbx5a := fun o => (below_alloc w5 o).at' hbx5; have hcx5 := hb5'.at' cbx; have hcx5a := fun o => (below_alloc w5 o).at' hcx5; have hcl5 := hb5'.at' hcell; clear hb5 hown5)
        | (refine step_app1s ty_rows rfl rfl rfl hownc rfl rfl (by omega) (by omega) ?_; intro b7 c8 w7 hown7 hg7; have hb7 := below_grown (Below.refl (w.heap.size + 1 + 2) w5) hownc hg7 (Nat.le_refl _) (by omega); have hob7 := hb7.at (by omega) hbx5; have hof7 := (hb7.frozen (p := ⟨w.heap.size + 1 + 1, 0, none⟩) (by show w.heap.size + 1 + 1 < _; omega)).trans ((hb5'.frozen (p := ⟨w.heap.size + 1 + 1, 0, none⟩) (by show w.heap.size + 1 + 1 < _; omega)).trans f3)))
      all_goals go_wp2
      all_goals go_roundw
      all_goals first
        | (simp [intOf]; omega)
        | skip
      all_goals
        have hb0 : Below (w.heap.size + 1) wr wr := Below.refl _ _
        obtain ⟨W, hW, r1, r2, r3, r4, r5, r6⟩ := box_stepB hb0 hsz hb5' Hb2.out Hb3.out Hown.out hown7 hg7
        subst hW
        have hbW : Below w.heap.size w _ := hbel.trans (r1.mono (by omega))
        refine ⟨k + 1, _, _, by omega, by go_num, hbW, Below.refl _ _, r2, Hbx.out.below r1 (by omega), r3, r4, r5, by simp [Hvl.out], fun j hj => ?_⟩
        by_cases e : j = k
        · subst e
          rw [show (vals ++ [Value.slice rvp m rvc]).getD j undef = .slice rvp m rvc from by rw [← Hvl.out]; exact getD_append_last _ _ _]
          rw [← Hm.out]
          exact ownsRow_base (r6 _ _ _ _ _ hown5') (by omega)
        · rw [getD_append_left _ _ _ _ (by have := Hvl.out; omega)]
          exact r6 _ _ _ _ _ (ownsRow_below (Hrows.out j (by omega)) hb5')
    · obtain rfl : k = g.length := by omega
      obtain ⟨k2c, k2f, _⟩ := Hb2.out
      obtain ⟨k3c, k3f, _⟩ := Hb3.out
      go_wp2
      refine bodyPost_ret (v := .agg #[.slice p9 g.length c9]) (by simp [results, Tryd.results216, go_sem, k2c]) rfl ⟨_, rfl, ⟨_, vals, rfl, Hvl.out, ?_, fun j hj => ?_⟩, ?_⟩
      · exact ownsRow_base (ownsRow_setBox Hown.out Hb2.out (by decide) _) (by omega)
      · exact Nums.of_owns (ownsRow_setBox (Hrows.out j hj) Hb2.out (by decide) _) rfl (by have := HRL.out j; omega)
      · exact hbel.setCell (by show w.heap.size ≤ w.heap.size + 1; omega) _

end Go.Proofs.YtkppbmfliejnmaaDoor

/- Walks: marking a graph; what stays apart from it. -/
namespace Go.Proofs.YtkppbmfliejnmaaDoor
open Go.RowKit

/-- Only blocks from lo on and below hi have turned. -/
structure Apart (lo hi : Nat) (w w' : World) : Prop where
  os : w'.os = w.os
  tape : w'.tape = w.tape
  output : w'.output = w.output
  size : w.heap.size ≤ w'.heap.size
  block : ∀ b, b < w.heap.size → (b < lo ∨ hi ≤ b) → w'.heap[b]? = w.heap[b]?

theorem Apart.refl (lo hi : Nat) (w : World) : Apart lo hi w w := ⟨rfl, rfl, rfl, Nat.le_refl _, fun _ _ _ => rfl⟩
theorem Apart.trans {lo hi : Nat} {a b c : World} (h : Apart lo hi a b) (k : Apart lo hi b c) : Apart lo hi a c :=
  ⟨k.os.trans h.os, k.tape.trans h.tape, k.output.trans h.output, Nat.le_trans h.size k.size, fun i hi hn => (k.block i (Nat.lt_of_lt_of_le hi h.size) hn).trans (h.block i hi hn)⟩
theorem Apart.of_below {lo hi : Nat} {w w' : World} (h : Below w.heap.size w w') : Apart lo hi w w' := ⟨h.os, h.tape, h.output, h.size, fun b hb _ => h.block b hb⟩
theorem Apart.below {lo hi : Nat} {w w' : World} (h : Apart lo hi w w') (hl : lo ≤ w.heap.size) : Below lo w w' := ⟨h.os, h.tape, h.output, h.size, fun b hb => h.block b (by omega) (.inl hb)⟩
theorem Apart.of_grown {lo hi : Nat} {w w' : World} {base : Nat} {E : TypeId} {size n : Nat} {v : Value} {xs : List Value} (ho : w.ownsRow base E size v n xs) (hg : w.grownBy w' v.ownBlock) (h1 : lo ≤ base) (h2 : ∀ k, v.ownBlock = some k → k < hi) : Apart lo hi w w' :=
  ⟨hg.os, hg.tape, hg.output, hg.size, fun b hb hx => hg.block b hb fun e => by
    have h3 := (ho.lt b e.symm).1
    have h4 := h2 b e.symm
    omega⟩

theorem ownsRow_apart_lo {lo hi : Nat} {w w' : World} {base : Nat} {E : TypeId} {size n : Nat} {v : Value} {xs : List Value} (h : w.ownsRow base E size v n xs) (ha : Apart lo hi w w') (hl : ∀ k, v.ownBlock = some k → k < lo) : w'.ownsRow base E size v n xs := by
  refine ⟨h.1, ?_⟩
  rcases h.2 with h2 | ⟨g, cap, cur, h1, h2, h3, h4⟩
  · exact .inl h2
  · exact .inr ⟨g, cap, cur, h1, h2, (ha.block g (Array.getElem?_eq_some_iff.1 h3).1 (.inl (hl g (by rw [h1]; rfl)))).trans h3, h4⟩
theorem ownsRow_apart_hi {lo hi : Nat} {w w' : World} {base : Nat} {E : TypeId} {size n : Nat} {v : Value} {xs : List Value} (h : w.ownsRow base E size v n xs) (ha : Apart lo hi w w') (hl : hi ≤ base) : w'.ownsRow base E size v n xs := by
  refine ⟨h.1, ?_⟩
  rcases h.2 with h2 | ⟨g, cap, cur, h1, h2, h3, h4⟩
  · exact .inl h2
  · exact .inr ⟨g, cap, cur, h1, h2, (ha.block g (Array.getElem?_eq_some_iff.1 h3).1 (.inr (by omega))).trans h3, h4⟩

/-- A row, whatever it holds, behind a write to a row of the same kind. -/
theorem ownsRow_some {w w' : World} {base : Nat} {E : TypeId} {n m : Nat} {v u : Value} {ys zs zs' : List Value} (h : w.ownsRow base E 1 v n ys)
    (ho : w.ownsRow base E 1 u m zs) (ho' : w'.ownsRow base E 1 u m zs') (hg : w.grownBy w' u.ownBlock) : ∃ ys', w'.ownsRow base E 1 v n ys' := by
  rcases h.2 with ⟨rfl, rfl⟩ | ⟨g, cap, cur, rfl, hb, hgg, hnc, hcm, hcs, ht⟩
  · exact ⟨[], World.ownsRow_nil _ _ _ _⟩
  · by_cases e : u.ownBlock = some g
    · rcases ho.2 with ⟨rfl, rfl⟩ | ⟨g1, cap1, cur1, rfl, _, hg1, _, _, hcs1, _⟩
      · simp [Value.ownBlock] at e
      · simp [Value.ownBlock] at e
        subst e
        rcases ho'.2 with ⟨h', _⟩ | ⟨g2, cap2, cur2, h2, hb2, hg2, _, _, hcs2, _⟩
        · simp at h'
        · simp only [Value.slice.injEq, Option.some.injEq, Addr.mk.injEq, and_true, true_and] at h2
          obtain ⟨rfl, rfl⟩ := h2
          rw [hgg] at hg1
          simp only [Option.some.injEq, Obj.cells.injEq] at hg1
          have hcc : cur2.size = cap * 1 := by rw [hcs2, ← hcs1, ← hg1.1, hcs]
          refine ⟨cur2.toList.take (n * 1), by rw [List.length_take, Array.length_toList]; omega, .inr ⟨g1, cap, cur2, rfl, hb, hg2, hnc, hcm, hcc, rfl⟩⟩
    · exact ⟨ys, h.kept hg (.inr (by simp only [Value.ownBlock]; exact fun q => e q.symm))⟩

/-- A graph in blocks from lo on and below hi. -/
def InG (w : World) (lo hi : Nat) (v : Value) (g : List (List Int)) : Prop :=
  ∃ u vals, v = .agg #[u] ∧ vals.length = g.length ∧ w.ownsRow lo 33 1 u g.length vals ∧ (∀ b, u.ownBlock = some b → b < hi) ∧
    ∀ j, j < g.length → w.ownsRow lo 2 1 (vals.getD j undef) (row g j).length ((row g j).map (Value.int .i64)) ∧ ∀ b, (vals.getD j undef).ownBlock = some b → b < hi

theorem InG.of_own {w : World} {lo : Nat} {v : Value} {g : List (List Int)} (h : OwnG w lo v g) : InG w lo w.heap.size v g := by
  obtain ⟨u, rfl, vals, h1, h2, h3⟩ := h
  exact ⟨u, vals, rfl, h1, h2, fun b hb => (h2.lt b hb).2, fun j hj => ⟨h3 j hj, fun b hb => ((h3 j hj).lt b hb).2⟩⟩
theorem InG.below {w w' : World} {lo hi : Nat} {v : Value} {g : List (List Int)} (h : InG w lo hi v g) (hb : Below w.heap.size w w') : InG w' lo hi v g := by
  obtain ⟨u, vals, h0, h1, h2, h3, h4⟩ := h
  exact ⟨u, vals, h0, h1, ownsRow_below h2 hb, h3, fun j hj => ⟨ownsRow_below (h4 j hj).1 hb, (h4 j hj).2⟩⟩
theorem InG.own {w : World} {lo hi : Nat} {v : Value} {g : List (List Int)} (h : InG w lo hi v g) : OwnG w lo v g := by
  obtain ⟨u, vals, h0, h1, h2, h3, h4⟩ := h
  exact ⟨u, h0, vals, h1, h2, fun j hj => (h4 j hj).1⟩

end Go.Proofs.YtkppbmfliejnmaaDoor

/- Small laws on what a law's walk compares. -/
namespace Go.Proofs.YtkppbmfliejnmaaDoor
open Go.RowKit

theorem OwnG.shape {w : World} {base : Nat} {v : Value} {g : List (List Int)} (h : OwnG w base v g) : ∃ p c, v = .agg #[.slice p g.length c] := by
  obtain ⟨u, rfl, vals, _, h2, _⟩ := h
  rcases h2.2 with ⟨rfl, h0⟩ | ⟨b, c, _, rfl, _⟩
  · exact ⟨none, 0, by rw [h0]⟩
  · exact ⟨_, _, rfl⟩
theorem owns_shape {w : World} {base : Nat} {E : TypeId} {size n : Nat} {v : Value} {xs : List Value} (h : w.ownsRow base E size v n xs) : ∃ p c, v = .slice p n c := by
  rcases h.2 with ⟨rfl, rfl⟩ | ⟨b, c, _, rfl, _⟩
  · exact ⟨none, 0, rfl⟩
  · exact ⟨_, _, rfl⟩
end Go.Proofs.YtkppbmfliejnmaaDoor
