/- Walks: the reference's sets of so many numbers, and its CoverOf. -/
import Derived.Test.YtiooindlpinjhaaDoorBbQ33
import Derived.Test.YtiooindlpinjhaaDoorBbQ28
namespace Go.Proofs.YtiooindlpinjhaaDoor
open Go.RowKit

/-- One set of rows more. -/
theorem SG.snocS {w w' : World} {base : Nat} {u u' rv : Value} {g : List (List Int)} {s : List Int} {vals : List Value} (hl : vals.length = g.length) (ho : w.ownsRow base 26 1 u g.length vals) (hr : ∀ j, j < g.length → Nums w 2 .i64 (vals.getD j undef) (row g j))
    (ho' : w'.ownsRow base 26 1 u' (g.length + 1) (vals ++ [rv])) (hg : w.grownBy w' u.ownBlock) (hn : Nums w 2 .i64 rv s) : SG w' base (.agg #[u']) (g ++ [s]) := by
  refine ⟨u', vals ++ [rv], rfl, by simp [hl], by rw [List.length_append]; exact ho', fun j hj => ?_⟩
  rw [List.length_append] at hj
  simp only [List.length_cons, List.length_nil] at hj
  by_cases h : j < g.length
  · rw [getD_append_left _ _ _ _ (by omega)]
    have e : row (g ++ [s]) j = row g j := by simp [row, List.getElem?_append_left h]
    rw [e]
    exact (hr j h).other ho hg (by decide)
  · have hj' : j = g.length := by omega
    subst hj'
    have e : row (g ++ [s]) g.length = s := by simp [row]
    rw [e, ← hl, getD_append_last]
    exact hn.other ho hg (by decide)

def partE (o : List Nat) (v : Nat) : List (List Nat) := ((List.range v).filter fun u => decide (lastp o ≤ u)).map fun u => o ++ [u]
theorem partE_start (o : List Nat) : partE o (lastp o) = [] := by
  unfold partE
  rw [List.map_eq_nil_iff, List.filter_eq_nil_iff]
  intro u hu e
  have h1 := List.mem_range.1 hu
  have h2 := of_decide_eq_true e
  omega
theorem partE_succ {o : List Nat} {v : Nat} (h : lastp o ≤ v) : partE o (v + 1) = partE o v ++ [o ++ [v]] := by simp [partE, List.range_succ, h]
theorem partE_end (n : Nat) (o : List Nat) : partE o n = extS n o := rfl
theorem partE_len (o : List Nat) (v : Nat) : (partE o v).length ≤ v := by
  unfold partE
  rw [List.length_map]
  exact Nat.le_trans (List.length_filter_le _ _) (by simp)
theorem flat_len {n : Nat} : ∀ B : List (List Nat), (B.flatMap (extS n)).length ≤ B.length * n
  | [] => by simp
  | o :: B => by
    have h1 := flat_len (n := n) B
    have h2 := partE_len o n
    rw [partE_end] at h2
    rw [List.flatMap_cons, List.length_append, List.length_cons, Nat.add_mul]
    omega
theorem lastp_at {o : List Nat} (h : 0 < o.length) : lastp o = o[o.length - 1]'(by omega) + 1 := by
  rcases snoc_or o with rfl | ⟨o', x, rfl⟩
  · simp at h
  · rw [lastp_snoc]; simp

set_option maxRecDepth 100000 in
set_option maxHeartbeats 4000000 in
theorem l11Sets_any (zn zk : Int) (n k : Nat) (hzn : zn = n) (hzk : zk = k) (h16 : n ≤ 16) (hk16 : k ≤ 16) (w : World) :
    Calls Tryd.prog 83 #[.int .i64 zn, .int .i64 zk] w fun e w' => ∃ u, e = .returned u ∧ SG w' w.heap.size (.agg #[u]) ((setsL n k).map natInts) ∧ Below w.heap.size w w' := by
  subst hzn; subst hzk
  have START : Hid (∀ W, W = (w.alloc (.cells #[] 2)).alloc (.cells #[.slice (some ⟨w.heap.size, 0, none⟩) 0 0] 26) → SG W w.heap.size (.agg #[.slice (some ⟨w.heap.size + 1, 0, none⟩) 1 1]) ((setsL n 0).map natInts) ∧ Below w.heap.size w W) := Lib.hid (by
    rintro W rfl
    refine ⟨⟨_, [.slice (some ⟨w.heap.size, 0, none⟩) 0 0], rfl, rfl, ?_, fun j hj => ?_⟩, below_alloc2 _ _ _⟩
    · have := World.ownsRow_lit (base := w.heap.size) (e := 26) (size := 1) (w.alloc (.cells #[] 2)) #[.slice (some ⟨w.heap.size, 0, none⟩) 0 0] 1 (below_alloc _ _).size (by decide) rfl
      rw [size_alloc] at this
      exact this
    · have hj : j = 0 := by simpa [setsL] using hj
      subst hj
      exact Sl.nothing _ _ _ _ (by simp))
  go_enter Tryd.func83, Tryd.ntmps83
  go_wp2_with fail
  go_loopw [5, 6] (fun bv kv wr => ∃ i : Nat, i ≤ k ∧ kv = .int .i64 i ∧ SG wr w.heap.size (.agg #[bv]) ((setsL n i).map natInts) ∧ Below w.heap.size w wr) (fun _ kv _ => k - (intOf kv).toNat)
  case atStart =>
    obtain ⟨h1, h2⟩ := START.out _ rfl
    exact ⟨0, Nat.zero_le _, rfl, h1, h2⟩
  case round =>
    clear START
    obtain ⟨i, hi, rfl, hsg, hb⟩ := hrel
    obtain ⟨B, hB⟩ : ∃ B, B = setsL n i := ⟨_, rfl⟩
    have HBB := Lib.hid hB
    have hBl : B.length ≤ 65536 := by rw [hB]; exact setsL_len h16 i
    have HBO : Hid (∀ o ∈ B, o.length = i ∧ ∀ u ∈ o, u < n) := Lib.hid (fun o ho => by
      rw [hB] at ho
      have := (mem_setsL i o).1 ho
      exact ⟨this.len, fun u hu => (this.inn u hu).2⟩)
    rw [← hB] at hsg
    have HSG := Lib.hid hsg
    have HB := Lib.hid hb
    obtain ⟨bp, bc, rfl⟩ : ∃ bp bc, u5 = .slice bp B.length bc := by
      obtain ⟨q, d, e⟩ := hsg.shape
      rw [List.length_map] at e
      cases e
      exact ⟨_, _, rfl⟩
    clear hsg hB
    by_cases hlt : i < k
    · have hRB : Hid (Rws wr 26 2 (.slice bp B.length bc) (B.map natInts)) := Lib.hid (by
        obtain ⟨_, e, h⟩ := HSG.out.gr (by rw [List.length_map]; omega)
        cases e
        exact h)
      have M0 := Lib.hid (ownsRow_empty wr 26 1)
      obtain ⟨W1, hW1⟩ : ∃ W1, W1 = wr := ⟨_, rfl⟩
      rw [← hW1] at hRB M0 HB HSG
      have HW1 := Lib.hid hW1
      clear hb hW1
      go_wp2_with fail
      rw [← HW1.out]
      clear HW1
      go_loopw [7, 8] (fun mv jv wx => ∃ (j : Nat) (M : List (List Nat)), j ≤ B.length ∧ jv = .int .i64 j ∧ Hid (M = (B.take j).flatMap (extS n)) ∧ SG wx W1.heap.size (.agg #[mv]) (M.map natInts) ∧ Below W1.heap.size W1 wx) (fun _ jv _ => B.length - (intOf jv).toNat)
      case atStart => exact ⟨0, [], Nat.zero_le _, rfl, Lib.hid (by simp), ⟨_, [], rfl, rfl, M0.out, fun j hj => by simp at hj⟩, below_alloc _ _⟩
      case round =>
        clear M0
        obtain ⟨j, M, hj, rfl, HM, hsg, hb⟩ := hrel
        have HSM := Lib.hid hsg
        have HBX := Lib.hid hb
        clear hsg
        by_cases hltj : j < B.length
        · obtain ⟨o, ho⟩ : ∃ o, o = B[j] := ⟨_, rfl⟩
          obtain ⟨hok, hon⟩ := HBO.out B[j] (List.getElem_mem hltj)
          rw [← ho] at hok hon
          have HOO := Lib.hid ho
          obtain ⟨bb, bo, rp, rc, rfl, hco0, hno⟩ := hRB.out.get (k := j) (by rw [List.length_map]; exact hltj)
          have eo : (B.map natInts).getD j [] = natInts o := by rw [ho]; simp [hltj]
          rw [eo, natInts_length, hok] at hco0 hno
          have HNO := Lib.hid hno
          have HCO := Lib.hid hco0
          have hlp : lastp o ≤ n := by
            rcases snoc_or o with e | ⟨o', x, e⟩
            · rw [e]; simp [lastp]
            · rw [e, lastp_snoc]
              exact hon x (by rw [e]; simp)
          obtain ⟨lp, hlpe⟩ : ∃ lp, lp = lastp o := ⟨_, rfl⟩
          rw [← hlpe] at hlp
          have HLP := Lib.hid hlpe
          have HLP0 : Hid (i = 0 → lp = 0) := Lib.hid (fun e => by
            have : o = [] := List.eq_nil_of_length_eq_zero (by omega)
            rw [hlpe, this]; rfl)
          have HLAST : Hid (∀ h : 0 < i, ∃ x, lp = x + 1 ∧ ∃ (qb qo : Nat), rp = some ⟨qb, qo, none⟩ ∧ W1.cell? ⟨qb, qo + (i - 1), none⟩ = some (.int .i64 (x : Int))) := Lib.hid (fun h => by
            have h2 := lastp_at (o := o) (by omega)
            rw [← hlpe] at h2
            obtain ⟨qb, qo, e, hq⟩ := hno.get (k := i - 1) (by rw [natInts_length]; omega)
            rw [natInts_atC (show i - 1 < o.length by omega)] at hq
            refine ⟨_, h2, qb, qo, e, ?_⟩
            rw [hq]
            simp [hok])
          have HOKL := Lib.hid (show (natInts o).length = i by rw [natInts_length]; exact hok)
          have HML : Hid (M.length ≤ 65536 * 16) := Lib.hid (by
            rw [HM.out]
            refine Nat.le_trans (flat_len _) (Nat.mul_le_mul ?_ h16)
            rw [List.length_take]; omega)
          have hco := hb.at' hco0
          clear ho eo hno hlpe hon hco0
          go_upto_if 30 with (fail)
          go_cut [9] (fun s9 wx => s9 = .int .i64 lp ∧ Below wr.heap.size wr wx)
          case first =>
            by_cases hi0 : i = 0
            · subst hi0
              have hlp0 := HLP0.out rfl
              go_wp2_with fail
              go_meet
              exact ⟨by rw [hlp0]; rfl, Below.refl _ _⟩
            · obtain ⟨x, hx, qb, qo, rfl, hq⟩ := HLAST.out (by omega)
              have hi1 : (0 : Int) < (i : Int) := by omega
              have hq1 := hb.at' hq
              obtain ⟨i1, hi2⟩ : ∃ i1, i1 = i - 1 := ⟨_, rfl⟩
              have hx16 : x < 16 := by omega
              rw [← hi2] at hq1
              have hwr : IntKind.i64.wrap ((i : Int) - 1) = (i1 : Int) := by rw [IntKind.wrap_i64]; omega
              have hlt1 : (i1 : Int) < (i : Int) := by omega
              have hwr2 : IntKind.i64.wrap ((x : Int) + 1) = (lp : Int) := by rw [IntKind.wrap_i64]; omega
              clear hq hi2 hx hb
              go_upto_region 11 with fail
              go_region_held3 (fun w' => w'.cell? ⟨bb, bo + j, none⟩ = some (.slice (some ⟨qb, qo, none⟩) i rc) ∧ w'.cell? ⟨qb, qo + i1, none⟩ = some (.int .i64 (x : Int)))
                (first | exact ⟨hco, hq1⟩ | go_keep)
                (first | fail)
              all_goals go_wp2
              all_goals go_meet
              all_goals exact ⟨rfl, below_dN (Below.refl _ _) 1⟩
          case rest =>
          obtain ⟨rfl, hbc⟩ := hcut
          have HSM1 := Lib.hid (HSM.out.below hbc)
          have HBX1 := Lib.hid (HBX.out.trans (hbc.mono HBX.out.size))
          have P0 : Hid (M = M ++ partE o lp) := Lib.hid (by rw [HLP.out, partE_start, List.append_nil])
          clear hco hb hbc HSM HBX
          go_wp2_with fail
          go_loopw [7, 10] (fun mv vv wx => ∃ (v : Nat) (M' : List (List Nat)), lp ≤ v ∧ v ≤ n ∧ vv = .int .i64 v ∧ Hid (M' = M ++ partE o v) ∧ SG wx W1.heap.size (.agg #[mv]) (M'.map natInts) ∧ Below W1.heap.size W1 wx) (fun _ vv _ => n - (intOf vv).toNat)
          case atStart => exact ⟨lp, M, Nat.le_refl _, hlp, rfl, P0, HSM1.out, HBX1.out⟩
          case round =>
            clear HSM1 HBX1 P0
            obtain ⟨v, M', hlv, hvn, rfl, HM', hsg, hb⟩ := hrel
            have HBX := Lib.hid hb
            by_cases hltv : v < n
            · have hco := hb.at' HCO.out
              have HNO1 := Lib.hid (HNO.out.below hb)
              have HPS : Hid (M' ++ [o ++ [v]] = M ++ partE o (v + 1)) := Lib.hid (by rw [partE_succ (by rw [← HLP.out]; exact hlv), HM'.out, List.append_assoc])
              have hml9 : M'.length < 1000000000 := by
                rw [HM'.out, List.length_append]
                have := HML.out
                have := partE_len o v
                omega
              obtain ⟨_, vals, e5, hvl, hom, hrm⟩ := hsg
              cases e5
              rw [List.length_map] at hvl hom hrm
              obtain ⟨mp, mc, rfl⟩ := owns_shapeB hom
              have HVL := Lib.hid hvl
              have HRM := Lib.hid hrm
              have HOM := Lib.hid hom
              have hii : i < 1000000000 := by omega
              clear hvl hom hrm hb
              go_wp2_with (first
                | (go_at_call 87; refine (l1Copy_any _ _ _ (oneCell_ints _ (natInts o)) (List.length_map ..) _ HNO1.out).mono ?_; rintro e w7 ⟨u7, rfl, hown7, hb7⟩; rw [HOKL.out] at hown7; have HB7 := Lib.hid hb7; have hs7 := hb7.size; clear hb7)
                | (at_builtin; refine wpList_app1s ty_i64 rfl rfl rfl hown7 rfl rfl hii hs7 ?_; intro b8 c8 w8 hown8 hg8 _; have HB8 := Lib.hid (below_grown HB7.out hown7 hg8 (Nat.le_refl _) HB7.out.size); have hom8 := ownsRow_below HOM.out HB8.out; have HW8 := Lib.hid hown8)
                | (at_builtin; refine wpList_app1s ty_rows rfl rfl rfl hom8 rfl rfl hml9 (by have := HBX.out.size; have := HB8.out.size; omega) ?_; intro b9 c9 w9 hown9 hg9 _))
              have hg9' : w8.grownBy w9 (Value.slice mp M'.length mc).ownBlock := hg9
              have hb9 : Below W1.heap.size W1 w9 := below_grown (HBX.out.trans (HB8.out.mono HBX.out.size)) hom8 hg9' (Nat.le_refl _) (by have := HBX.out.size; have := HB8.out.size; omega)
              have hnx : Nums w8 2 .i64 (.slice (some ⟨b8, 0, none⟩) (i + 1) c8) (natInts (o ++ [v])) := Nums.of_owns (by rw [natInts_snocS, List.map_append]; exact HW8.out) (by rw [natInts_snocS, List.length_append, HOKL.out]; rfl) (by omega)
              have hsg9 : SG w9 W1.heap.size (.agg #[.slice (some ⟨b9, 0, none⟩) (M'.length + 1) c9]) ((M' ++ [o ++ [v]]).map natInts) := by
                rw [List.map_append]
                have e := SG.snocS (w := w8) (g := M'.map natInts) (s := natInts (o ++ [v])) (vals := vals) (by rw [List.length_map]; exact HVL.out) (by rw [List.length_map]; exact hom8) (fun j hj => (HRM.out j (by rwa [List.length_map] at hj)).below HB8.out) (by rw [List.length_map]; exact hown9) hg9' hnx
                exact e
              have HS9 := Lib.hid hsg9
              have HB9 := Lib.hid hb9
              clear hsg9 hb9 hnx hg9' hown9 hg9 hom8 hown8 hg8
              go_roundw
              case rel => exact ⟨v + 1, M' ++ [o ++ [v]], by omega, by omega, by go_num, HPS, HS9.out, HB9.out⟩
              case measure => simp [intOf]; omega
            · obtain rfl : v = n := by omega
              have HM2 : Hid (M' = (B.take (j + 1)).flatMap (extS v)) := Lib.hid (by
                rw [HM'.out, take_snoc' B j hltj, List.flatMap_append, ← HM.out, partE_end, ← HOO.out]; simp)
              have HSM := Lib.hid hsg
              obtain ⟨mp, mc, rfl⟩ : ∃ mp mc, u7 = .slice mp M'.length mc := by
                obtain ⟨q, d, e⟩ := hsg.shape
                rw [List.length_map] at e
                cases e
                exact ⟨_, _, rfl⟩
              clear hsg hb
              go_wp2_with fail
              go_roundw
              case rel => exact ⟨j + 1, M', by omega, by go_num, HM2, HSM.out, HBX.out⟩
              case measure => simp [intOf]; omega
        · obtain rfl : j = B.length := by omega
          have HFIN : Hid (setsL n (i + 1) = M) := Lib.hid (by rw [HM.out, List.take_length, HBB.out]; rfl)
          clear hb
          go_wp2_with fail
          go_roundw
          case rel => exact ⟨i + 1, by omega, by go_num, by rw [HFIN.out]; exact HSM.out.base HB.out.size, HB.out.trans (HBX.out.mono HB.out.size)⟩
          case measure => simp [intOf]; omega
    · obtain rfl : i = k := by omega
      clear hb
      go_wp2_with fail
      go_ret
      exact ⟨_, rfl, by rw [← HBB.out]; exact HSG.out, HB.out⟩

end Go.Proofs.YtiooindlpinjhaaDoor

/- Plain: each graph of six vertices at most in which no vertex has one or two neighbours, and some edge is, has a model of the full graph of four. -/
namespace Go.Proofs.YtiooindlpinjhaaDoor

/-- The bit of an edge. -/
def bitVd (u v : Nat) : Nat := if u < v then v * (v - 1) / 2 + u else u * (u - 1) / 2 + v
theorem bitVd_comm (u v : Nat) : bitVd u v = bitVd v u := by
  unfold bitVd
  by_cases h : u < v
  · rw [if_pos h, if_neg (by omega)]
  · by_cases h2 : v < u
    · rw [if_neg h, if_pos h2]
    · obtain rfl : u = v := by omega
      rfl
/-- The edges between two lists. -/
def joinVd (A B : List Nat) : Nat := A.foldl (fun m x => B.foldl (fun m y => m ||| 2 ^ bitVd x y) m) 0
theorem joinVd_in {c x : Nat} (B : List Nat) : ∀ m, c &&& B.foldl (fun m y => m ||| 2 ^ bitVd x y) m ≠ 0 → c &&& m ≠ 0 ∨ ∃ y ∈ B, c.testBit (bitVd x y) = true := by
  induction B with
  | nil => intro m h; exact .inl h
  | cons y B ih =>
    intro m h
    rcases ih _ h with h | ⟨z, hz, h⟩
    · by_cases e : c.testBit (bitVd x y) = true
      · exact .inr ⟨y, by simp, e⟩
      · refine .inl fun h0 => h (Nat.eq_of_testBit_eq fun i => ?_)
        have := congrArg (Nat.testBit · i) h0
        simp only [Nat.testBit_and, Nat.zero_testBit, Nat.testBit_or] at this ⊢
        by_cases ei : i = bitVd x y
        · subst ei
          have e' : c.testBit (bitVd x y) = false := by simpa using e
          rw [e']; rfl
        · rw [Nat.testBit_two_pow_of_ne (Ne.symm ei), Bool.or_false, this]
    · exact .inr ⟨z, by simp [hz], h⟩
theorem joinVd_out {c : Nat} {B : List Nat} (A : List Nat) : ∀ m, c &&& A.foldl (fun m x => B.foldl (fun m y => m ||| 2 ^ bitVd x y) m) m ≠ 0 → c &&& m ≠ 0 ∨ ∃ x ∈ A, ∃ y ∈ B, c.testBit (bitVd x y) = true := by
  induction A with
  | nil => intro m h; exact .inl h
  | cons x A ih =>
    intro m h
    rcases ih _ h with h | ⟨z, hz, h⟩
    · rcases joinVd_in B m h with h | ⟨y, hy, h⟩
      · exact .inl h
      · exact .inr ⟨x, by simp, y, hy, h⟩
    · exact .inr ⟨z, by simp [hz], h⟩
theorem joinVd_hit {c : Nat} {A B : List Nat} (h : c &&& joinVd A B ≠ 0) : ∃ x ∈ A, ∃ y ∈ B, c.testBit (bitVd x y) = true := by
  rcases joinVd_out A 0 h with h | h
  · rw [Nat.and_zero] at h; exact absurd rfl h
  · exact h

/-- What a set of a model needs: each vertex an edge to the rest. -/
def wholeVd (B : List Nat) : List Nat := if B.length ≤ 1 then [] else B.map fun x => joinVd [x] (B.filter (· != x))
def condsVd (M : List (List Nat)) : List Nat := M.flatMap wholeVd ++ (List.range 4).flatMap fun i => (List.range i).map fun j => joinVd (M.getD i []) (M.getD j [])
def shapeVd (M : List (List Nat)) : Bool := M.length == 4 && M.all (fun B => decide (1 ≤ B.length) && decide (B.length ≤ 3)) && decide M.flatten.Nodup && M.all (fun B => B.all (· < 6))

def modsVd : List (List (List Nat)) := [
  [[0], [1], [2], [3]],
  [[0], [1], [2], [4]],
  [[0], [1], [2], [5]],
  [[0], [1], [3], [4]],
  [[0], [1], [3], [5]],
  [[0], [1], [4], [5]],
  [[0], [2], [3], [4]],
  [[0], [2], [3], [5]],
  [[0], [2], [4], [5]],
  [[0], [3], [4], [5]],
  [[1], [2], [3], [4]],
  [[1], [2], [3], [5]],
  [[1], [2], [4], [5]],
  [[1], [3], [4], [5]],
  [[2], [3], [4], [5]],
  [[0, 1], [2], [3], [4]],
  [[0, 1], [2], [3], [5]],
  [[0, 1], [2], [4], [5]],
  [[0, 1], [3], [4], [5]],
  [[0, 2], [1], [3], [4]],
  [[0, 2], [1], [3], [5]],
  [[0, 2], [1], [4], [5]],
  [[0, 2], [3], [4], [5]],
  [[0, 3], [1], [2], [4]],
  [[0, 3], [1], [2], [5]],
  [[0, 3], [1], [4], [5]],
  [[0, 3], [2], [4], [5]],
  [[0, 4], [1], [2], [3]],
  [[0, 4], [1], [2], [5]],
  [[0, 4], [1], [3], [5]],
  [[0, 4], [2], [3], [5]],
  [[0, 5], [1], [2], [3]],
  [[0, 5], [1], [2], [4]],
  [[0, 5], [1], [3], [4]],
  [[0, 5], [2], [3], [4]],
  [[1, 2], [0], [3], [4]],
  [[1, 2], [0], [3], [5]],
  [[1, 2], [0], [4], [5]],
  [[1, 2], [3], [4], [5]],
  [[1, 3], [0], [2], [4]],
  [[1, 3], [0], [2], [5]],
  [[1, 3], [0], [4], [5]],
  [[1, 3], [2], [4], [5]],
  [[1, 4], [0], [2], [3]],
  [[1, 4], [0], [2], [5]],
  [[1, 4], [0], [3], [5]],
  [[1, 4], [2], [3], [5]],
  [[1, 5], [0], [2], [3]],
  [[1, 5], [0], [2], [4]],
  [[1, 5], [0], [3], [4]],
  [[1, 5], [2], [3], [4]],
  [[2, 3], [0], [1], [4]],
  [[2, 3], [0], [1], [5]],
  [[2, 3], [0], [4], [5]],
  [[2, 3], [1], [4], [5]],
  [[2, 4], [0], [1], [3]],
  [[2, 4], [0], [1], [5]],
  [[2, 4], [0], [3], [5]],
  [[2, 4], [1], [3], [5]],
  [[2, 5], [0], [1], [3]],
  [[2, 5], [0], [1], [4]],
  [[2, 5], [0], [3], [4]],
  [[2, 5], [1], [3], [4]],
  [[3, 4], [0], [1], [2]],
  [[3, 4], [0], [1], [5]],
  [[3, 4], [0], [2], [5]],
  [[3, 4], [1], [2], [5]],
  [[3, 5], [0], [1], [2]],
  [[3, 5], [0], [1], [4]],
  [[3, 5], [0], [2], [4]],
  [[3, 5], [1], [2], [4]],
  [[4, 5], [0], [1], [2]],
  [[4, 5], [0], [1], [3]],
  [[4, 5], [0], [2], [3]],
  [[4, 5], [1], [2], [3]],
  [[0, 1, 2], [3], [4], [5]],
  [[0, 1, 3], [2], [4], [5]],
  [[0, 1, 4], [2], [3], [5]],
  [[0, 1, 5], [2], [3], [4]],
  [[0, 2, 3], [1], [4], [5]],
  [[0, 2, 4], [1], [3], [5]],
  [[0, 2, 5], [1], [3], [4]],
  [[0, 3, 4], [1], [2], [5]],
  [[0, 3, 5], [1], [2], [4]],
  [[0, 4, 5], [1], [2], [3]],
  [[1, 2, 3], [0], [4], [5]],
  [[1, 2, 4], [0], [3], [5]],
  [[1, 2, 5], [0], [3], [4]],
  [[1, 3, 4], [0], [2], [5]],
  [[1, 3, 5], [0], [2], [4]],
  [[1, 4, 5], [0], [2], [3]],
  [[2, 3, 4], [0], [1], [5]],
  [[2, 3, 5], [0], [1], [4]],
  [[2, 4, 5], [0], [1], [3]],
  [[3, 4, 5], [0], [1], [2]],
  [[0, 1], [2, 3], [4], [5]],
  [[0, 1], [2, 4], [3], [5]],
  [[0, 1], [2, 5], [3], [4]],
  [[0, 1], [3, 4], [2], [5]],
  [[0, 1], [3, 5], [2], [4]],
  [[0, 1], [4, 5], [2], [3]],
  [[0, 2], [1, 3], [4], [5]],
  [[0, 2], [1, 4], [3], [5]],
  [[0, 2], [1, 5], [3], [4]],
  [[0, 2], [3, 4], [1], [5]],
  [[0, 2], [3, 5], [1], [4]],
  [[0, 2], [4, 5], [1], [3]],
  [[0, 3], [1, 2], [4], [5]],
  [[0, 3], [1, 4], [2], [5]],
  [[0, 3], [1, 5], [2], [4]],
  [[0, 3], [2, 4], [1], [5]],
  [[0, 3], [2, 5], [1], [4]],
  [[0, 3], [4, 5], [1], [2]],
  [[0, 4], [1, 2], [3], [5]],
  [[0, 4], [1, 3], [2], [5]],
  [[0, 4], [1, 5], [2], [3]],
  [[0, 4], [2, 3], [1], [5]],
  [[0, 4], [2, 5], [1], [3]],
  [[0, 4], [3, 5], [1], [2]],
  [[0, 5], [1, 2], [3], [4]],
  [[0, 5], [1, 3], [2], [4]],
  [[0, 5], [1, 4], [2], [3]],
  [[0, 5], [2, 3], [1], [4]],
  [[0, 5], [2, 4], [1], [3]],
  [[0, 5], [3, 4], [1], [2]],
  [[1, 2], [3, 4], [0], [5]],
  [[1, 2], [3, 5], [0], [4]],
  [[1, 2], [4, 5], [0], [3]],
  [[1, 3], [2, 4], [0], [5]],
  [[1, 3], [2, 5], [0], [4]],
  [[1, 3], [4, 5], [0], [2]],
  [[1, 4], [2, 3], [0], [5]],
  [[1, 4], [2, 5], [0], [3]],
  [[1, 4], [3, 5], [0], [2]],
  [[1, 5], [2, 3], [0], [4]],
  [[1, 5], [2, 4], [0], [3]],
  [[1, 5], [3, 4], [0], [2]],
  [[2, 3], [4, 5], [0], [1]],
  [[2, 4], [3, 5], [0], [1]],
  [[2, 5], [3, 4], [0], [1]]]
def condVd : List (List Nat) := [
  [1, 2, 4, 8, 16, 32],
  [1, 2, 4, 64, 128, 256],
  [1, 2, 4, 1024, 2048, 4096],
  [1, 8, 16, 64, 128, 512],
  [1, 8, 16, 1024, 2048, 8192],
  [1, 64, 128, 1024, 2048, 16384],
  [2, 8, 32, 64, 256, 512],
  [2, 8, 32, 1024, 4096, 8192],
  [2, 64, 256, 1024, 4096, 16384],
  [8, 64, 512, 1024, 8192, 16384],
  [4, 16, 32, 128, 256, 512],
  [4, 16, 32, 2048, 4096, 8192],
  [4, 128, 256, 2048, 4096, 16384],
  [16, 128, 512, 2048, 8192, 16384],
  [32, 256, 512, 4096, 8192, 16384],
  [1, 1, 6, 24, 32, 192, 256, 512],
  [1, 1, 6, 24, 32, 3072, 4096, 8192],
  [1, 1, 6, 192, 256, 3072, 4096, 16384],
  [1, 1, 24, 192, 512, 3072, 8192, 16384],
  [2, 2, 5, 40, 16, 320, 128, 512],
  [2, 2, 5, 40, 16, 5120, 2048, 8192],
  [2, 2, 5, 320, 128, 5120, 2048, 16384],
  [2, 2, 40, 320, 512, 5120, 8192, 16384],
  [8, 8, 17, 34, 4, 576, 128, 256],
  [8, 8, 17, 34, 4, 9216, 2048, 4096],
  [8, 8, 17, 576, 128, 9216, 2048, 16384],
  [8, 8, 34, 576, 256, 9216, 4096, 16384],
  [64, 64, 129, 258, 4, 520, 16, 32],
  [64, 64, 129, 258, 4, 17408, 2048, 4096],
  [64, 64, 129, 520, 16, 17408, 2048, 8192],
  [64, 64, 258, 520, 32, 17408, 4096, 8192],
  [1024, 1024, 2049, 4098, 4, 8200, 16, 32],
  [1024, 1024, 2049, 4098, 4, 16448, 128, 256],
  [1024, 1024, 2049, 8200, 16, 16448, 128, 512],
  [1024, 1024, 4098, 8200, 32, 16448, 256, 512],
  [4, 4, 3, 48, 8, 384, 64, 512],
  [4, 4, 3, 48, 8, 6144, 1024, 8192],
  [4, 4, 3, 384, 64, 6144, 1024, 16384],
  [4, 4, 48, 384, 512, 6144, 8192, 16384],
  [16, 16, 9, 36, 2, 640, 64, 256],
  [16, 16, 9, 36, 2, 10240, 1024, 4096],
  [16, 16, 9, 640, 64, 10240, 1024, 16384],
  [16, 16, 36, 640, 256, 10240, 4096, 16384],
  [128, 128, 65, 260, 2, 528, 8, 32],
  [128, 128, 65, 260, 2, 18432, 1024, 4096],
  [128, 128, 65, 528, 8, 18432, 1024, 8192],
  [128, 128, 260, 528, 32, 18432, 4096, 8192],
  [2048, 2048, 1025, 4100, 2, 8208, 8, 32],
  [2048, 2048, 1025, 4100, 2, 16512, 64, 256],
  [2048, 2048, 1025, 8208, 8, 16512, 64, 512],
  [2048, 2048, 4100, 8208, 32, 16512, 256, 512],
  [32, 32, 10, 20, 1, 768, 64, 128],
  [32, 32, 10, 20, 1, 12288, 1024, 2048],
  [32, 32, 10, 768, 64, 12288, 1024, 16384],
  [32, 32, 20, 768, 128, 12288, 2048, 16384],
  [256, 256, 66, 132, 1, 544, 8, 16],
  [256, 256, 66, 132, 1, 20480, 1024, 2048],
  [256, 256, 66, 544, 8, 20480, 1024, 8192],
  [256, 256, 132, 544, 16, 20480, 2048, 8192],
  [4096, 4096, 1026, 2052, 1, 8224, 8, 16],
  [4096, 4096, 1026, 2052, 1, 16640, 64, 128],
  [4096, 4096, 1026, 8224, 8, 16640, 64, 512],
  [4096, 4096, 2052, 8224, 16, 16640, 128, 512],
  [512, 512, 72, 144, 1, 288, 2, 4],
  [512, 512, 72, 144, 1, 24576, 1024, 2048],
  [512, 512, 72, 288, 2, 24576, 1024, 4096],
  [512, 512, 144, 288, 4, 24576, 2048, 4096],
  [8192, 8192, 1032, 2064, 1, 4128, 2, 4],
  [8192, 8192, 1032, 2064, 1, 16896, 64, 128],
  [8192, 8192, 1032, 4128, 2, 16896, 64, 256],
  [8192, 8192, 2064, 4128, 4, 16896, 128, 256],
  [16384, 16384, 1088, 2176, 1, 4352, 2, 4],
  [16384, 16384, 1088, 2176, 1, 8704, 8, 16],
  [16384, 16384, 1088, 4352, 2, 8704, 8, 32],
  [16384, 16384, 2176, 4352, 4, 8704, 16, 32],
  [3, 5, 6, 56, 448, 512, 7168, 8192, 16384],
  [9, 17, 24, 38, 704, 256, 11264, 4096, 16384],
  [65, 129, 192, 262, 536, 32, 19456, 4096, 8192],
  [1025, 2049, 3072, 4102, 8216, 32, 16576, 256, 512],
  [10, 34, 40, 21, 832, 128, 13312, 2048, 16384],
  [66, 258, 320, 133, 552, 16, 21504, 2048, 8192],
  [1026, 4098, 5120, 2053, 8232, 16, 16704, 128, 512],
  [72, 520, 576, 145, 290, 4, 25600, 2048, 4096],
  [1032, 8200, 9216, 2065, 4130, 4, 16960, 128, 256],
  [1088, 16448, 17408, 2177, 4354, 4, 8712, 16, 32],
  [20, 36, 48, 11, 896, 64, 14336, 1024, 16384],
  [132, 260, 384, 67, 560, 8, 22528, 1024, 8192],
  [2052, 4100, 6144, 1027, 8240, 8, 16768, 64, 512],
  [144, 528, 640, 73, 292, 2, 26624, 1024, 4096],
  [2064, 8208, 10240, 1033, 4132, 2, 17024, 64, 256],
  [2176, 16512, 18432, 1089, 4356, 2, 8720, 8, 32],
  [288, 544, 768, 74, 148, 1, 28672, 1024, 2048],
  [4128, 8224, 12288, 1034, 2068, 1, 17152, 64, 128],
  [4352, 16640, 20480, 1090, 2180, 1, 8736, 8, 16],
  [8704, 16896, 24576, 1096, 2192, 1, 4384, 2, 4],
  [1, 1, 32, 32, 30, 192, 768, 3072, 12288, 16384],
  [1, 1, 256, 256, 198, 24, 544, 3072, 20480, 8192],
  [1, 1, 4096, 4096, 3078, 24, 8224, 192, 16640, 512],
  [1, 1, 512, 512, 216, 6, 288, 3072, 24576, 4096],
  [1, 1, 8192, 8192, 3096, 6, 4128, 192, 16896, 256],
  [1, 1, 16384, 16384, 3264, 6, 4352, 24, 8704, 32],
  [2, 2, 16, 16, 45, 320, 640, 5120, 10240, 16384],
  [2, 2, 128, 128, 325, 40, 528, 5120, 18432, 8192],
  [2, 2, 2048, 2048, 5125, 40, 8208, 320, 16512, 512],
  [2, 2, 512, 512, 360, 5, 144, 5120, 24576, 2048],
  [2, 2, 8192, 8192, 5160, 5, 2064, 320, 16896, 128],
  [2, 2, 16384, 16384, 5440, 5, 2176, 40, 8704, 16],
  [8, 8, 4, 4, 51, 576, 384, 9216, 6144, 16384],
  [8, 8, 128, 128, 593, 34, 260, 9216, 18432, 4096],
  [8, 8, 2048, 2048, 9233, 34, 4100, 576, 16512, 256],
  [8, 8, 256, 256, 610, 17, 132, 9216, 20480, 2048],
  [8, 8, 4096, 4096, 9250, 17, 2052, 576, 16640, 128],
  [8, 8, 16384, 16384, 9792, 17, 2176, 34, 4352, 4],
  [64, 64, 4, 4, 387, 520, 48, 17408, 6144, 8192],
  [64, 64, 16, 16, 649, 258, 36, 17408, 10240, 4096],
  [64, 64, 2048, 2048, 17537, 258, 4100, 520, 8208, 32],
  [64, 64, 32, 32, 778, 129, 20, 17408, 12288, 2048],
  [64, 64, 4096, 4096, 17666, 129, 2052, 520, 8224, 16],
  [64, 64, 8192, 8192, 17928, 129, 2064, 258, 4128, 4],
  [1024, 1024, 4, 4, 6147, 8200, 48, 16448, 384, 512],
  [1024, 1024, 16, 16, 10249, 4098, 36, 16448, 640, 256],
  [1024, 1024, 128, 128, 18497, 4098, 260, 8200, 528, 32],
  [1024, 1024, 32, 32, 12298, 2049, 20, 16448, 768, 128],
  [1024, 1024, 256, 256, 20546, 2049, 132, 8200, 544, 16],
  [1024, 1024, 512, 512, 24648, 2049, 144, 4098, 288, 4],
  [4, 4, 512, 512, 432, 3, 72, 6144, 24576, 1024],
  [4, 4, 8192, 8192, 6192, 3, 1032, 384, 16896, 64],
  [4, 4, 16384, 16384, 6528, 3, 1088, 48, 8704, 8],
  [16, 16, 256, 256, 676, 9, 66, 10240, 20480, 1024],
  [16, 16, 4096, 4096, 10276, 9, 1026, 640, 16640, 64],
  [16, 16, 16384, 16384, 10880, 9, 1088, 36, 4352, 2],
  [128, 128, 32, 32, 788, 65, 10, 18432, 12288, 1024],
  [128, 128, 4096, 4096, 18692, 65, 1026, 528, 8224, 8],
  [128, 128, 8192, 8192, 18960, 65, 1032, 260, 4128, 2],
  [2048, 2048, 32, 32, 12308, 1025, 10, 16512, 768, 64],
  [2048, 2048, 256, 256, 20612, 1025, 66, 8208, 544, 8],
  [2048, 2048, 512, 512, 24720, 1025, 72, 4100, 288, 2],
  [32, 32, 16384, 16384, 13056, 10, 1088, 20, 2176, 1],
  [256, 256, 8192, 8192, 21024, 66, 1032, 132, 2064, 1],
  [4096, 4096, 512, 512, 24864, 1026, 72, 2052, 144, 1]]
theorem condVd_eq : condVd = modsVd.map condsVd := by decide +kernel
theorem modsVd_ok : modsVd.all shapeVd = true := by decide +kernel

def degVd : List Nat := [1099, 2197, 4390, 8760, 17344, 31744]
/-- One or two bits. -/
def fewVd (x : Nat) : Bool := x != 0 && (x ^^^ 2 ^ x.log2 == 0 || (x ^^^ 2 ^ x.log2) ^^^ 2 ^ (x ^^^ 2 ^ x.log2).log2 == 0)
def chkVd (c : Nat) : Bool := degVd.any (fun m => fewVd (c &&& m)) || c == 0 || condVd.any fun l => l.all fun m => c &&& m != 0
def allVd (p : Nat → Bool) : Nat → Nat → Bool
  | 0, c => p c
  | k + 1, c => allVd p k (2 * c) && allVd p k (2 * c + 1)
theorem allVd_yes {p : Nat → Bool} : ∀ (k c : Nat), allVd p k c = true → ∀ x, x < 2 ^ k → p (c * 2 ^ k + x) = true
  | 0, c, h, x, hx => by
    obtain rfl : x = 0 := by omega
    rw [allVd] at h; simpa using h
  | k + 1, c, h, x, hx => by
    rw [allVd, Bool.and_eq_true] at h
    have e : 2 ^ (k + 1) = 2 * 2 ^ k := by rw [Nat.pow_succ]; omega
    by_cases hx2 : x < 2 ^ k
    · have := allVd_yes k _ h.1 x hx2
      rwa [show c * 2 ^ (k + 1) = 2 * c * 2 ^ k by rw [e, ← Nat.mul_assoc, Nat.mul_comm c 2]]
    · have := allVd_yes k _ h.2 (x - 2 ^ k) (by omega)
      rw [show (2 * c + 1) * 2 ^ k + (x - 2 ^ k) = c * 2 ^ (k + 1) + x by
        rw [e, ← Nat.mul_assoc, Nat.mul_comm c 2, Nat.add_mul]; omega] at this
      exact this
set_option maxRecDepth 100000 in
theorem chkVd_all : allVd chkVd 15 0 = true := by decide +kernel

end Go.Proofs.YtiooindlpinjhaaDoor
