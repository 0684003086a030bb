/- Walks: the reference's sets of so many numbers, and its CoverOf. -/
import Derived.Test.YtihlcmenfopaiaaDoorMmQ28
namespace Go.Proofs.YtihlcmenfopaiaaDoor
open Go.RowKit

/-- One set of rows more. -/
theorem SG.snocS {w w' : World} {base : Nat} {u u' rv : Value} {g : List (List Int)} {s : List Int} {vals : List Value} (hl : vals.length = g.length) (ho : w.ownsRow base 27 1 u g.length vals) (hr : ∀ j, j < g.length → Nums w 2 .i64 (vals.getD j undef) (row g j))
    (ho' : w'.ownsRow base 27 1 u' (g.length + 1) (vals ++ [rv])) (hg : w.grownBy w' u.ownBlock) (hn : Nums w 2 .i64 rv s) : SG w' base (.agg #[u']) (g ++ [s]) := by
  refine ⟨u', vals ++ [rv], rfl, by simp [hl], by rw [List.length_append]; exact ho', fun j hj => ?_⟩
  rw [List.length_append] at hj
  simp only [List.length_cons, List.length_nil] at hj
  by_cases h : j < g.length
  · rw [getD_append_left _ _ _ _ (by omega)]
    have e : row (g ++ [s]) j = row g j := by simp [row, List.getElem?_append_left h]
    rw [e]
    exact (hr j h).other ho hg (by decide)
  · have hj' : j = g.length := by omega
    subst hj'
    have e : row (g ++ [s]) g.length = s := by simp [row]
    rw [e, ← hl, getD_append_last]
    exact hn.other ho hg (by decide)

def partE (o : List Nat) (v : Nat) : List (List Nat) := ((List.range v).filter fun u => decide (lastp o ≤ u)).map fun u => o ++ [u]
theorem partE_start (o : List Nat) : partE o (lastp o) = [] := by
  unfold partE
  rw [List.map_eq_nil_iff, List.filter_eq_nil_iff]
  intro u hu e
  have h1 := List.mem_range.1 hu
  have h2 := of_decide_eq_true e
  omega
theorem partE_succ {o : List Nat} {v : Nat} (h : lastp o ≤ v) : partE o (v + 1) = partE o v ++ [o ++ [v]] := by simp [partE, List.range_succ, h]
theorem partE_end (n : Nat) (o : List Nat) : partE o n = extS n o := rfl
theorem partE_len (o : List Nat) (v : Nat) : (partE o v).length ≤ v := by
  unfold partE
  rw [List.length_map]
  exact Nat.le_trans (List.length_filter_le _ _) (by simp)
theorem flat_len {n : Nat} : ∀ B : List (List Nat), (B.flatMap (extS n)).length ≤ B.length * n
  | [] => by simp
  | o :: B => by
    have h1 := flat_len (n := n) B
    have h2 := partE_len o n
    rw [partE_end] at h2
    rw [List.flatMap_cons, List.length_append, List.length_cons, Nat.add_mul]
    omega
theorem lastp_at {o : List Nat} (h : 0 < o.length) : lastp o = o[o.length - 1]'(by omega) + 1 := by
  rcases snoc_or o with rfl | ⟨o', x, rfl⟩
  · simp at h
  · rw [lastp_snoc]; simp

set_option maxRecDepth 100000 in
set_option maxHeartbeats 4000000 in
theorem l11Sets_any (zn zk : Int) (n k : Nat) (hzn : zn = n) (hzk : zk = k) (h16 : n ≤ 16) (hk16 : k ≤ 16) (w : World) :
    Calls Tryd.prog 54 #[.int .i64 zn, .int .i64 zk] w fun e w' => ∃ u, e = .returned u ∧ SG w' w.heap.size (.agg #[u]) ((setsL n k).map natInts) ∧ Below w.heap.size w w' := by
  subst hzn; subst hzk
  have START : Hid (∀ W, W = (w.alloc (.cells #[] 2)).alloc (.cells #[.slice (some ⟨w.heap.size, 0, none⟩) 0 0] 27) → SG W w.heap.size (.agg #[.slice (some ⟨w.heap.size + 1, 0, none⟩) 1 1]) ((setsL n 0).map natInts) ∧ Below w.heap.size w W) := Lib.hid (by
    rintro W rfl
    refine ⟨⟨_, [.slice (some ⟨w.heap.size, 0, none⟩) 0 0], rfl, rfl, ?_, fun j hj => ?_⟩, below_alloc2 _ _ _⟩
    · have := World.ownsRow_lit (base := w.heap.size) (e := 27) (size := 1) (w.alloc (.cells #[] 2)) #[.slice (some ⟨w.heap.size, 0, none⟩) 0 0] 1 (below_alloc _ _).size (by decide) rfl
      rw [size_alloc] at this
      exact this
    · have hj : j = 0 := by simpa [setsL] using hj
      subst hj
      exact Sl.nothing _ _ _ _ (by simp))
  go_enter Tryd.func54, Tryd.ntmps54
  go_wp2_with fail
  go_loopw [5, 6] (fun bv kv wr => ∃ i : Nat, i ≤ k ∧ kv = .int .i64 i ∧ SG wr w.heap.size (.agg #[bv]) ((setsL n i).map natInts) ∧ Below w.heap.size w wr) (fun _ kv _ => k - (intOf kv).toNat)
  case atStart =>
    obtain ⟨h1, h2⟩ := START.out _ rfl
    exact ⟨0, Nat.zero_le _, rfl, h1, h2⟩
  case round =>
    clear START
    obtain ⟨i, hi, rfl, hsg, hb⟩ := hrel
    obtain ⟨B, hB⟩ : ∃ B, B = setsL n i := ⟨_, rfl⟩
    have HBB := Lib.hid hB
    have hBl : B.length ≤ 65536 := by rw [hB]; exact setsL_len h16 i
    have HBO : Hid (∀ o ∈ B, o.length = i ∧ ∀ u ∈ o, u < n) := Lib.hid (fun o ho => by
      rw [hB] at ho
      have := (mem_setsL i o).1 ho
      exact ⟨this.len, fun u hu => (this.inn u hu).2⟩)
    rw [← hB] at hsg
    have HSG := Lib.hid hsg
    have HB := Lib.hid hb
    obtain ⟨bp, bc, rfl⟩ : ∃ bp bc, u5 = .slice bp B.length bc := by
      obtain ⟨q, d, e⟩ := hsg.shape
      rw [List.length_map] at e
      cases e
      exact ⟨_, _, rfl⟩
    clear hsg hB
    by_cases hlt : i < k
    · have hRB : Hid (Rws wr 27 2 (.slice bp B.length bc) (B.map natInts)) := Lib.hid (by
        obtain ⟨_, e, h⟩ := HSG.out.gr (by rw [List.length_map]; omega)
        cases e
        exact h)
      have M0 := Lib.hid (ownsRow_empty wr 27 1)
      obtain ⟨W1, hW1⟩ : ∃ W1, W1 = wr := ⟨_, rfl⟩
      rw [← hW1] at hRB M0 HB HSG
      have HW1 := Lib.hid hW1
      clear hb hW1
      go_wp2_with fail
      rw [← HW1.out]
      clear HW1
      go_loopw [7, 8] (fun mv jv wx => ∃ (j : Nat) (M : List (List Nat)), j ≤ B.length ∧ jv = .int .i64 j ∧ Hid (M = (B.take j).flatMap (extS n)) ∧ SG wx W1.heap.size (.agg #[mv]) (M.map natInts) ∧ Below W1.heap.size W1 wx) (fun _ jv _ => B.length - (intOf jv).toNat)
      case atStart => exact ⟨0, [], Nat.zero_le _, rfl, Lib.hid (by simp), ⟨_, [], rfl, rfl, M0.out, fun j hj => by simp at hj⟩, below_alloc _ _⟩
      case round =>
        clear M0
        obtain ⟨j, M, hj, rfl, HM, hsg, hb⟩ := hrel
        have HSM := Lib.hid hsg
        have HBX := Lib.hid hb
        clear hsg
        by_cases hltj : j < B.length
        · obtain ⟨o, ho⟩ : ∃ o, o = B[j] := ⟨_, rfl⟩
          obtain ⟨hok, hon⟩ := HBO.out B[j] (List.getElem_mem hltj)
          rw [← ho] at hok hon
          have HOO := Lib.hid ho
          obtain ⟨bb, bo, rp, rc, rfl, hco0, hno⟩ := hRB.out.get (k := j) (by rw [List.length_map]; exact hltj)
          have eo : (B.map natInts).getD j [] = natInts o := by rw [ho]; simp [hltj]
          rw [eo, natInts_length, hok] at hco0 hno
          have HNO := Lib.hid hno
          have HCO := Lib.hid hco0
          have hlp : lastp o ≤ n := by
            rcases snoc_or o with e | ⟨o', x, e⟩
            · rw [e]; simp [lastp]
            · rw [e, lastp_snoc]
              exact hon x (by rw [e]; simp)
          obtain ⟨lp, hlpe⟩ : ∃ lp, lp = lastp o := ⟨_, rfl⟩
          rw [← hlpe] at hlp
          have HLP := Lib.hid hlpe
          have HLP0 : Hid (i = 0 → lp = 0) := Lib.hid (fun e => by
            have : o = [] := List.eq_nil_of_length_eq_zero (by omega)
            rw [hlpe, this]; rfl)
          have HLAST : Hid (∀ h : 0 < i, ∃ x, lp = x + 1 ∧ ∃ (qb qo : Nat), rp = some ⟨qb, qo, none⟩ ∧ W1.cell? ⟨qb, qo + (i - 1), none⟩ = some (.int .i64 (x : Int))) := Lib.hid (fun h => by
            have h2 := lastp_at (o := o) (by omega)
            rw [← hlpe] at h2
            obtain ⟨qb, qo, e, hq⟩ := hno.get (k := i - 1) (by rw [natInts_length]; omega)
            rw [natInts_atC (show i - 1 < o.length by omega)] at hq
            refine ⟨_, h2, qb, qo, e, ?_⟩
            rw [hq]
            simp [hok])
          have HOKL := Lib.hid (show (natInts o).length = i by rw [natInts_length]; exact hok)
          have HML : Hid (M.length ≤ 65536 * 16) := Lib.hid (by
            rw [HM.out]
            refine Nat.le_trans (flat_len _) (Nat.mul_le_mul ?_ h16)
            rw [List.length_take]; omega)
          have hco := hb.at' hco0
          clear ho eo hno hlpe hon hco0
          go_upto_if 30 with (fail)
          go_cut [9] (fun s9 wx => s9 = .int .i64 lp ∧ Below wr.heap.size wr wx)
          case first =>
            by_cases hi0 : i = 0
            · subst hi0
              have hlp0 := HLP0.out rfl
              go_wp2_with fail
              go_meet
              exact ⟨by rw [hlp0]; rfl, Below.refl _ _⟩
            · obtain ⟨x, hx, qb, qo, rfl, hq⟩ := HLAST.out (by omega)
              have hi1 : (0 : Int) < (i : Int) := by omega
              have hq1 := hb.at' hq
              obtain ⟨i1, hi2⟩ : ∃ i1, i1 = i - 1 := ⟨_, rfl⟩
              have hx16 : x < 16 := by omega
              rw [← hi2] at hq1
              have hwr : IntKind.i64.wrap ((i : Int) - 1) = (i1 : Int) := by rw [IntKind.wrap_i64]; omega
              have hlt1 : (i1 : Int) < (i : Int) := by omega
              have hwr2 : IntKind.i64.wrap ((x : Int) + 1) = (lp : Int) := by rw [IntKind.wrap_i64]; omega
              clear hq hi2 hx hb
              go_upto_region 11 with fail
              go_region_held3 (fun w' => w'.cell? ⟨bb, bo + j, none⟩ = some (.slice (some ⟨qb, qo, none⟩) i rc) ∧ w'.cell? ⟨qb, qo + i1, none⟩ = some (.int .i64 (x : Int)))
                (first | exact ⟨hco, hq1⟩ | go_keep)
                (first | fail)
              all_goals go_wp2
              all_goals go_meet
              all_goals exact ⟨rfl, below_dN (Below.refl _ _) 1⟩
          case rest =>
          obtain ⟨rfl, hbc⟩ := hcut
          have HSM1 := Lib.hid (HSM.out.below hbc)
          have HBX1 := Lib.hid (HBX.out.trans (hbc.mono HBX.out.size))
          have P0 : Hid (M = M ++ partE o lp) := Lib.hid (by rw [HLP.out, partE_start, List.append_nil])
          clear hco hb hbc HSM HBX
          go_wp2_with fail
          go_loopw [7, 10] (fun mv vv wx => ∃ (v : Nat) (M' : List (List Nat)), lp ≤ v ∧ v ≤ n ∧ vv = .int .i64 v ∧ Hid (M' = M ++ partE o v) ∧ SG wx W1.heap.size (.agg #[mv]) (M'.map natInts) ∧ Below W1.heap.size W1 wx) (fun _ vv _ => n - (intOf vv).toNat)
          case atStart => exact ⟨lp, M, Nat.le_refl _, hlp, rfl, P0, HSM1.out, HBX1.out⟩
          case round =>
            clear HSM1 HBX1 P0
            obtain ⟨v, M', hlv, hvn, rfl, HM', hsg, hb⟩ := hrel
            have HBX := Lib.hid hb
            by_cases hltv : v < n
            · have hco := hb.at' HCO.out
              have HNO1 := Lib.hid (HNO.out.below hb)
              have HPS : Hid (M' ++ [o ++ [v]] = M ++ partE o (v + 1)) := Lib.hid (by rw [partE_succ (by rw [← HLP.out]; exact hlv), HM'.out, List.append_assoc])
              have hml9 : M'.length < 1000000000 := by
                rw [HM'.out, List.length_append]
                have := HML.out
                have := partE_len o v
                omega
              obtain ⟨_, vals, e5, hvl, hom, hrm⟩ := hsg
              cases e5
              rw [List.length_map] at hvl hom hrm
              obtain ⟨mp, mc, rfl⟩ := owns_shapeB hom
              have HVL := Lib.hid hvl
              have HRM := Lib.hid hrm
              have HOM := Lib.hid hom
              have hii : i < 1000000000 := by omega
              clear hvl hom hrm hb
              go_wp2_with (first
                | (go_at_call 98; refine (l1Copy_any _ _ _ (oneCell_ints _ (natInts o)) (List.length_map ..) _ HNO1.out).mono ?_; rintro e w7 ⟨u7, rfl, hown7, hb7⟩; rw [HOKL.out] at hown7; have HB7 := Lib.hid hb7; have hs7 := hb7.size; clear hb7)
                | (at_builtin; refine wpList_app1s ty_i64 rfl rfl rfl hown7 rfl rfl hii hs7 ?_; intro b8 c8 w8 hown8 hg8 _; have HB8 := Lib.hid (below_grown HB7.out hown7 hg8 (Nat.le_refl _) HB7.out.size); have hom8 := ownsRow_below HOM.out HB8.out; have HW8 := Lib.hid hown8)
                | (at_builtin; refine wpList_app1s ty_rows rfl rfl rfl hom8 rfl rfl hml9 (by have := HBX.out.size; have := HB8.out.size; omega) ?_; intro b9 c9 w9 hown9 hg9 _))
              have hg9' : w8.grownBy w9 (Value.slice mp M'.length mc).ownBlock := hg9
              have hb9 : Below W1.heap.size W1 w9 := below_grown (HBX.out.trans (HB8.out.mono HBX.out.size)) hom8 hg9' (Nat.le_refl _) (by have := HBX.out.size; have := HB8.out.size; omega)
              have hnx : Nums w8 2 .i64 (.slice (some ⟨b8, 0, none⟩) (i + 1) c8) (natInts (o ++ [v])) := Nums.of_owns (by rw [natInts_snocS, List.map_append]; exact HW8.out) (by rw [natInts_snocS, List.length_append, HOKL.out]; rfl) (by omega)
              have hsg9 : SG w9 W1.heap.size (.agg #[.slice (some ⟨b9, 0, none⟩) (M'.length + 1) c9]) ((M' ++ [o ++ [v]]).map natInts) := by
                rw [List.map_append]
                have e := SG.snocS (w := w8) (g := M'.map natInts) (s := natInts (o ++ [v])) (vals := vals) (by rw [List.length_map]; exact HVL.out) (by rw [List.length_map]; exact hom8) (fun j hj => (HRM.out j (by rwa [List.length_map] at hj)).below HB8.out) (by rw [List.length_map]; exact hown9) hg9' hnx
                exact e
              have HS9 := Lib.hid hsg9
              have HB9 := Lib.hid hb9
              clear hsg9 hb9 hnx hg9' hown9 hg9 hom8 hown8 hg8
              go_roundw
              case rel => exact ⟨v + 1, M' ++ [o ++ [v]], by omega, by omega, by go_num, HPS, HS9.out, HB9.out⟩
              case measure => simp [intOf]; omega
            · obtain rfl : v = n := by omega
              have HM2 : Hid (M' = (B.take (j + 1)).flatMap (extS v)) := Lib.hid (by
                rw [HM'.out, take_snoc' B j hltj, List.flatMap_append, ← HM.out, partE_end, ← HOO.out]; simp)
              have HSM := Lib.hid hsg
              obtain ⟨mp, mc, rfl⟩ : ∃ mp mc, u7 = .slice mp M'.length mc := by
                obtain ⟨q, d, e⟩ := hsg.shape
                rw [List.length_map] at e
                cases e
                exact ⟨_, _, rfl⟩
              clear hsg hb
              go_wp2_with fail
              go_roundw
              case rel => exact ⟨j + 1, M', by omega, by go_num, HM2, HSM.out, HBX.out⟩
              case measure => simp [intOf]; omega
        · obtain rfl : j = B.length := by omega
          have HFIN : Hid (setsL n (i + 1) = M) := Lib.hid (by rw [HM.out, List.take_length, HBB.out]; rfl)
          clear hb
          go_wp2_with fail
          go_roundw
          case rel => exact ⟨i + 1, by omega, by go_num, by rw [HFIN.out]; exact HSM.out.base HB.out.size, HB.out.trans (HBX.out.mono HB.out.size)⟩
          case measure => simp [intOf]; omega
    · obtain rfl : i = k := by omega
      clear hb
      go_wp2_with fail
      go_ret
      exact ⟨_, rfl, by rw [← HBB.out]; exact HSG.out, HB.out⟩

end Go.Proofs.YtihlcmenfopaiaaDoor
