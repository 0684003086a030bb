/- Walk: the reference's search of the least code, place by place. -/
import Derived.Test.YtiklocamfgopbaaDoorCnS
namespace Go.Proofs.YtiklocamfgopbaaDoor
open Go.RowKit

theorem freeV_len (n : Nat) (o : List Nat) : (freeV n o).length ≤ n := Nat.le_trans (List.length_filter_le _ _) (by simp)
theorem candC_len (n : Nat) : ∀ B : List (List Nat), (candC n B).length ≤ B.length * n
  | [] => by simp [candC]
  | o :: B => by
    have h1 := candC_len n B
    have h2 := freeV_len n o
    have e : candC n (o :: B) = (freeV n o).map (fun v => (o, v)) ++ candC n B := by simp [candC]
    rw [e, List.length_append, List.length_map, List.length_cons, Nat.add_mul]
    omega
theorem addI_len {E : Nat → Nat → Bool} {C : List (List Nat × Nat)} {s : List (List Nat) × List Nat} (h : AddI E C s) : s.1.length ≤ C.length := by
  rcases h with ⟨_, rfl⟩ | ⟨_, _, h, _⟩
  · simp
  · rw [h, List.length_map]; exact List.length_filter_le _ _
theorem levB_len {n : Nat} (h8 : n ≤ 8) (E : Nat → Nat → Bool) : ∀ k, (levB n E k).length ≤ 8 ^ k
  | 0 => by simp [levB]
  | k + 1 => by
    have h1 := levB_len h8 E k
    have hI := addI_fold (E := E) (candC n (levB n E k)) [] ([], []) (.inl ⟨rfl, rfl⟩)
    rw [List.nil_append] at hI
    have h2 := addI_len hI
    have h3 := candC_len n (levB n E k)
    have h4 : (levB n E k).length * n ≤ 8 ^ k * 8 := Nat.mul_le_mul h1 h8
    have e : levB n E (k + 1) = ((candC n (levB n E k)).foldl (addC E) ([], [])).1 := rfl
    rw [e, Nat.pow_succ]
    omega
theorem levB_ord {n k : Nat} {E : Nat → Nat → Bool} (hk : k ≤ n) {o : List Nat} (ho : o ∈ levB n E k) : o.length = k ∧ (∀ u ∈ o, u < n) ∧ o.Nodup := by
  obtain ⟨m, h1, _⟩ := levB_is n E k hk
  rw [h1] at ho
  obtain ⟨p, hp, rfl⟩ := List.mem_map.1 ho
  obtain ⟨h, _⟩ := lev_ord n E k p (List.mem_filter.1 hp).1
  exact ⟨h.len, h.lt, h.nod⟩
theorem natInts_inj {a b : List Nat} : natInts a = natInts b ↔ a = b := by
  constructor
  · intro h
    have h2 := congrArg (List.map Int.toNat) h
    have e : ∀ l : List Nat, (natInts l).map Int.toNat = l := fun l => by
      unfold natInts
      rw [List.map_map]
      conv => rhs; rw [← List.map_id l]
      exact List.map_congr_left fun x _ => Int.toNat_natCast x
    rw [e, e] at h2
    exact h2
  · rintro rfl; rfl
theorem lessP_lex {a b : List Nat} (h : a.length = b.length) : lessP a b ↔ lexL a b := by
  unfold lessP
  constructor
  · rintro (k | ⟨_, k⟩)
    · omega
    · exact k
  · exact fun k => .inr ⟨h, k⟩

theorem addI_row {E : Nat → Nat → Bool} {C : List (List Nat × Nat)} {s : List (List Nat) × List Nat} {k : Nat} (h : AddI E C s) (hne : s.1 ≠ []) (hC : ∀ c ∈ C, c.1.length = k) : s.2.length = k := by
  rcases h with ⟨_, rfl⟩ | ⟨_, _, h, _⟩
  · exact absurd rfl hne
  · obtain ⟨y, hy⟩ := List.exists_mem_of_ne_nil _ hne
    rw [h] at hy
    obtain ⟨c, hc, _⟩ := List.mem_map.1 hy
    obtain ⟨h1, h2⟩ := List.mem_filter.1 hc
    rw [← of_decide_eq_true h2, rowC_length]
    exact hC c h1

/-- The candidates up to vertex v at one order. -/
def partV (o : List Nat) (v : Nat) : List (List Nat × Nat) := ((List.range v).filter fun u => decide (u ∉ o)).map fun u => (o, u)
theorem partV_zero (o : List Nat) : partV o 0 = [] := rfl
theorem partV_yes {o : List Nat} {v : Nat} (h : v ∉ o) : partV o (v + 1) = partV o v ++ [(o, v)] := by simp [partV, List.range_succ, h]
theorem partV_no {o : List Nat} {v : Nat} (h : v ∈ o) : partV o (v + 1) = partV o v := by simp [partV, List.range_succ, h]
theorem cand_take {n : Nat} {B : List (List Nat)} {i : Nat} (h : i < B.length) : candC n (B.take (i + 1)) = candC n (B.take i) ++ partV B[i] n := by
  unfold candC
  rw [take_snoc' B i h, List.flatMap_append, List.flatMap_cons, List.flatMap_nil, List.append_nil]
  rfl

/-- One set of rows more. -/
theorem SG.snocB {w w' : World} {base : Nat} {u u' rv : Value} {g : List (List Int)} {s : List Int} {vals : List Value} (hl : vals.length = g.length) (ho : w.ownsRow base 37 1 u g.length vals) (hr : ∀ j, j < g.length → Nums w 2 .i64 (vals.getD j undef) (row g j))
    (ho' : w'.ownsRow base 37 1 u' (g.length + 1) (vals ++ [rv])) (hg : w.grownBy w' u.ownBlock) (hn : Nums w 2 .i64 rv s) : SG w' base (.agg #[u']) (g ++ [s]) := by
  refine ⟨u', vals ++ [rv], rfl, by simp [hl], by rw [List.length_append]; exact ho', fun j hj => ?_⟩
  rw [List.length_append] at hj
  simp only [List.length_cons, List.length_nil] at hj
  by_cases h : j < g.length
  · rw [getD_append_left _ _ _ _ (by omega)]
    have e : row (g ++ [s]) j = row g j := by simp [row, List.getElem?_append_left h]
    rw [e]
    exact (hr j h).other ho hg (by decide)
  · have hj' : j = g.length := by omega
    subst hj'
    have e : row (g ++ [s]) g.length = s := by simp [row]
    rw [e, ← hl, getD_append_last]
    exact hn.other ho hg (by decide)

set_option maxRecDepth 100000 in
set_option maxHeartbeats 4000000 in
theorem l4Best_any (v : Value) (g : List (List Int)) (h8 : g.length ≤ 8) (w : World) (hg : Gr w v g) :
    Calls Tryd.prog 42 #[v] w fun e w' => ∃ u, e = .returned u ∧ SG w' w.heap.size (.agg #[u]) ((levB g.length (edB g) g.length).map natInts) ∧ Below w.heap.size w w' := by
  have hg0 := hg
  obtain ⟨u, rfl, hr⟩ := hg
  obtain ⟨p, c, rfl, _⟩ := hr.shape
  obtain ⟨W0, hW0⟩ : ∃ W0, W0 = w.alloc (.cells #[.slice p g.length c] 30) := ⟨_, rfl⟩
  have hb0 : Below w.heap.size w W0 := by rw [hW0]; exact below_alloc _ _
  have HB0 := Lib.hid hb0
  have HBG : Hid (Box W0 w.heap.size 30 (.slice p g.length c)) := Lib.hid (by rw [hW0]; exact Box.new _ _ _)
  have HG := Lib.hid (hg0.below hb0)
  have SZ0 := Lib.hid (show W0.heap.size = w.heap.size + 1 by rw [hW0, size_alloc])
  clear hr hg0 hb0
  obtain ⟨E, hE⟩ : ∃ E, E = edB g := ⟨_, rfl⟩
  rw [← hE]
  have HEE := Lib.hid hE
  have START : Hid (∀ W, W = (W0.alloc (.cells #[] 2)).alloc (.cells #[.slice (some ⟨W0.heap.size, 0, none⟩) 0 0] 37) → SG W W0.heap.size (.agg #[.slice (some ⟨W0.heap.size + 1, 0, none⟩) 1 1]) ((levB g.length E 0).map natInts) ∧ Below W0.heap.size W0 W) := Lib.hid (by
    rintro W rfl
    refine ⟨⟨_, [.slice (some ⟨W0.heap.size, 0, none⟩) 0 0], rfl, rfl, ?_, fun j hj => ?_⟩, below_alloc2 _ _ _⟩
    · have := World.ownsRow_lit (base := W0.heap.size) (e := 37) (size := 1) (W0.alloc (.cells #[] 2)) #[.slice (some ⟨W0.heap.size, 0, none⟩) 0 0] 1 (below_alloc _ _).size (by decide) rfl
      rw [size_alloc] at this
      exact this
    · have hj : j = 0 := by simpa [levB] using hj
      subst hj
      exact Sl.nothing _ _ _ _ (by simp))
  clear hE
  go_enter Tryd.func42, Tryd.ntmps42
  go_upto_region 1 with fail
  rw [← hW0]
  clear hW0
  go_wp2_with fail
  go_loopw [3, 4] (fun bv kv wr => ∃ k : Nat, k ≤ g.length ∧ kv = .int .i64 k ∧ SG wr W0.heap.size (.agg #[bv]) ((levB g.length E k).map natInts) ∧ Below W0.heap.size W0 wr) (fun _ kv _ => g.length - (intOf kv).toNat)
  case atStart =>
    obtain ⟨h1, h2⟩ := START.out _ rfl
    exact ⟨0, Nat.zero_le _, rfl, h1, h2⟩
  case round =>
    clear START
    obtain ⟨k, hk, rfl, hsg, hb⟩ := hrel
    have HSG := Lib.hid hsg
    have HB := Lib.hid hb
    have hcg := hb.at (by have := SZ0.out; omega) HBG.out.cell
    have HG1 := Lib.hid (HG.out.below hb)
    obtain ⟨B, hB⟩ : ∃ B, B = levB g.length E k := ⟨_, rfl⟩
    have HBB := Lib.hid hB
    have hBl : B.length ≤ 16777216 := by
      rw [hB]
      have h1 := levB_len h8 E k
      have h2 : 8 ^ k ≤ 8 ^ 8 := Nat.pow_le_pow_right (by decide) (by omega)
      have h3 : (8 : Nat) ^ 8 = 16777216 := by decide
      omega
    have HBO : Hid (∀ o ∈ B, o.length = k ∧ (∀ u ∈ o, u < g.length)) := Lib.hid (fun o ho => by rw [hB] at ho; obtain ⟨h1, h2, _⟩ := levB_ord hk ho; exact ⟨h1, h2⟩)
    rw [← hB] at HSG
    obtain ⟨bp, bc, rfl⟩ : ∃ bp bc, u3 = .slice bp B.length bc := by
      obtain ⟨q, d, e⟩ := HSG.out.shape
      rw [List.length_map] at e
      cases e
      exact ⟨_, _, rfl⟩
    clear hsg hB
    by_cases hlt : k < g.length
    · go_wp2_with (first
        | (go_at_call 50; refine (l1Size_any _ g _ HG1.out).mono ?_; rintro e w2 ⟨rfl, hb2⟩; have HB2 := Lib.hid (HB.out.trans (hb2.mono hb.size)); have HSB := Lib.hid (HSG.out.below hb2); have HG2 := Lib.hid (HG1.out.below hb2); have hcg2 := hb2.at' hcg; clear hb2))
      have hRB : Hid (Rws w2 37 2 (.slice bp B.length bc) (B.map natInts)) := Lib.hid (by
        obtain ⟨_, e, h⟩ := HSB.out.gr (by rw [List.length_map]; omega)
        cases e
        exact h)
      have HM0 := Lib.hid (ownsRow_below (ownsRow_empty w2 37 1) (below_alloc _ (.cells #[] 2)))
      have HBW := Lib.hid hb
      clear hcg HG1 hb
      go_loopw [5, 6, 7] (fun mv lv iv wx => ∃ (i : Nat) (s : List (List Nat) × List Nat), i ≤ B.length ∧ iv = .int .i64 i ∧ Hid (s = (candC g.length (B.take i)).foldl (addC E) ([], [])) ∧ SG wx w2.heap.size (.agg #[mv]) (s.1.map natInts) ∧ Nums wx 2 .i64 lv (natInts s.2) ∧ Below w2.heap.size w2 wx) (fun _ _ iv _ => B.length - (intOf iv).toNat)
      case atStart =>
        refine ⟨0, ([], []), Nat.zero_le _, rfl, Lib.hid (by simp [candC]), ⟨_, [], rfl, rfl, HM0.out, fun j hj => by simp at hj⟩, Sl.nothing _ _ _ _ (by simp), below_alloc2 _ _ _⟩
      case round =>
        clear HM0
        obtain ⟨i, s, hi, rfl, HS, hsg, hn, hb⟩ := hrel
        have HSM := Lib.hid hsg
        have HNL := Lib.hid hn
        have HBX := Lib.hid hb
        clear hsg hn hb
        by_cases hlti : i < B.length
        · obtain ⟨o, ho⟩ : ∃ o, o = B[i] := ⟨_, rfl⟩
          obtain ⟨hok, hon⟩ := HBO.out B[i] (List.getElem_mem hlti)
          rw [← ho] at hok hon
          have HOO := Lib.hid ho
          have HON := Lib.hid hon
          have HC0 : Hid (s = (candC g.length (B.take i) ++ partV o 0).foldl (addC E) ([], [])) := Lib.hid (by rw [partV_zero, List.append_nil]; exact HS.out)
          clear ho hon
          go_wp2_with fail
          go_loopw [5, 6, 8] (fun mv lv vv wx => ∃ (x : Nat) (s : List (List Nat) × List Nat), x ≤ g.length ∧ vv = .int .i64 x ∧ Hid (s = (candC g.length (B.take i) ++ partV o x).foldl (addC E) ([], [])) ∧ SG wx w2.heap.size (.agg #[mv]) (s.1.map natInts) ∧ Nums wx 2 .i64 lv (natInts s.2) ∧ Below w2.heap.size w2 wx) (fun _ _ vv _ => g.length - (intOf vv).toNat)
          case atStart => exact ⟨0, s, Nat.zero_le _, rfl, HC0.out, HSM.out, HNL.out, HBX.out⟩
          case round =>
            clear HC0 HSM HNL HBX HS
            obtain ⟨x, s, hx, rfl, HS, hsg, hn, hb⟩ := hrel
            have HSM := Lib.hid hsg
            have HNL := Lib.hid hn
            have HBX := Lib.hid hb
            have hcg := hb.at (by have := SZ0.out; have := HB2.out.size; omega) hcg2
            obtain ⟨bb, bo, rp, rc, rfl, hco, hno⟩ := (hRB.out.below hb).get (k := i) (by rw [List.length_map]; exact hlti)
            have eo : (B.map natInts).getD i [] = natInts o := by rw [HOO.out]; simp [hlti]
            rw [eo, natInts_length, hok] at hco hno
            have HNO := Lib.hid hno
            have HGx := Lib.hid (HG2.out.below hb)
            clear hsg hn hno eo
            by_cases hltx : x < g.length
            · have hxs : Hid (∀ s', s' = addC E s (o, x) → x ∉ o → s' = (candC g.length (B.take i) ++ partV o (x + 1)).foldl (addC E) ([], [])) := Lib.hid (by
                rintro s' rfl hv
                rw [partV_yes hv, ← List.append_assoc, List.foldl_append, ← HS.out]
                rfl)
              by_cases hv : x ∈ o
              · have HDV := Lib.hid (dec_true (show (x : Int) ∈ natInts o from mem_natInts.2 ⟨x, hv, rfl⟩))
                have HV := Lib.hid hv
                clear hv
                go_wp2_with (first
                  | (go_at_call 50; refine (l1Size_any _ g _ HGx.out).mono ?_; rintro e w3 ⟨rfl, hb3⟩; have HB3 := Lib.hid (HBX.out.trans (hb3.mono hb.size)); have HSM3 := Lib.hid (HSM.out.below hb3); have HNL3 := Lib.hid (HNL.out.below hb3); have HNO3 := Lib.hid (HNO.out.below hb3); have hco3 := hb3.at' hco; clear hb3)
                  | (go_at_call 53; refine (l1Has_any _ (natInts o) x _ HNO3.out).mono ?_; rintro e w4 ⟨he4, hw4⟩; rw [HDV.out] at he4; subst he4; subst hw4))
                go_roundw
                case rel => exact ⟨x + 1, s, by omega, by go_num, Lib.hid (by rw [partV_no HV.out]; exact HS.out), HSM3.out, HNL3.out, HB3.out⟩
                case measure => simp [intOf]; omega
              · have HDV := Lib.hid (dec_false (show ¬ (x : Int) ∈ natInts o from fun h => by
                  obtain ⟨y, hy, e⟩ := mem_natInts.1 h
                  have : y = x := by omega
                  exact hv (this ▸ hy)))
                have HV := Lib.hid hv
                clear hv
                go_upto_region 14 with (first
                  | (go_at_call 50; refine (l1Size_any _ g _ HGx.out).mono ?_; rintro e w3 ⟨rfl, hb3⟩; have HB3 := Lib.hid (HBX.out.trans (hb3.mono hb.size)); have HSM3 := Lib.hid (HSM.out.below hb3); have HNL3 := Lib.hid (HNL.out.below hb3); have HNO3 := Lib.hid (HNO.out.below hb3); have HG3 := Lib.hid (HGx.out.below hb3); have hco3 := hb3.at' hco; have hcg3 := hb3.at' hcg; clear hb3)
                  | (go_at_call 53; refine (l1Has_any _ (natInts o) x _ HNO3.out).mono ?_; rintro e w4 ⟨he4, hw4⟩; rw [HDV.out] at he4; subst he4; subst hw4))
                obtain ⟨rr, hrr⟩ : ∃ rr, rr = rowC E o x := ⟨_, rfl⟩
                have HRW := Lib.hid hrr
                have HRL := Lib.hid (show rr.length = k by rw [hrr, rowC_length, hok])
                clear hrr hco hcg
                go_cut [9] (fun s9 wx => ∃ rp9 rc9, s9 = .slice rp9 k rc9 ∧ Nums wx 2 .i64 s9 (natInts rr) ∧ Below w3.heap.size w3 wx)
                case first =>
                  go_region_held3 (fun w' => w'.cell? ⟨w.heap.size, 0, none⟩ = some (.slice p g.length c) ∧ w'.cell? ⟨bb, bo + i, none⟩ = some (.slice rp k rc))
                    (first | exact ⟨hcg3, hco3⟩ | exact ⟨BWA.at' hcg3, BWA.at' hco3⟩ | go_keep)
                    (first
                      | (go_at_call 67; refine (l4Row_any _ _ _ g o x rfl HON.out (by omega) _ (HG3.out.below (below_dN (Below.refl _ _) 1)) (HNO3.out.below (below_dN (Below.refl _ _) 1))).mono ?_; rintro e w5 ⟨u5, rfl, hown5, hb5⟩; rw [← HEE.out, ← HRW.out] at hown5; have HN5 := Lib.hid (Nums.of_owns hown5 (by rw [natInts_length, HRL.out]; exact hok) (by omega)); have BWA : Below w3.heap.size w3 w5 := (below_dN (Below.refl _ _) 1).trans hb5; clear hown5 hb5))
                  all_goals go_wp2
                  all_goals go_meet
                  all_goals
                    obtain ⟨q1, q2, e9, _⟩ := id HN5.out
                    rw [natInts_length, HRL.out] at e9
                    exact ⟨q1, q2, e9, HN5.out, BWA⟩
                case rest =>
                  obtain ⟨rp9, rc9, rfl, hn9, hb9⟩ := hcut
                  have HN9 := Lib.hid hn9
                  have HB9 := Lib.hid hb9
                  have HSM9 := Lib.hid (HSM3.out.below hb9)
                  have HNL9 := Lib.hid (HNL3.out.below hb9)
                  have HBX9 := Lib.hid (HB3.out.trans (hb9.mono HB3.out.size))
                  have HNO9 := Lib.hid (HNO3.out.below hb9)
                  have hco9 := hb9.at' hco3
                  obtain ⟨M, hM⟩ : ∃ M, M = s.1 := ⟨_, rfl⟩
                  obtain ⟨ls, hls⟩ : ∃ ls, ls = s.2 := ⟨_, rfl⟩
                  have hI : AddI E (candC g.length (B.take i) ++ partV o x) s := by
                    have := addI_fold (E := E) (candC g.length (B.take i) ++ partV o x) [] ([], []) (.inl ⟨rfl, rfl⟩)
                    rw [List.nil_append, ← HS.out] at this
                    exact this
                  have HML := Lib.hid (show M.length ≤ 200000000 by
                    have h1 := addI_len hI
                    have h2 := candC_len g.length (B.take i)
                    have h3 : (partV o x).length ≤ x := by unfold partV; rw [List.length_map]; exact Nat.le_trans (List.length_filter_le _ _) (by simp)
                    have h4 : (B.take i).length * g.length ≤ 16777216 * 8 := Nat.mul_le_mul (by rw [List.length_take]; omega) h8
                    rw [List.length_append] at h1
                    rw [hM]
                    omega)
                  have HLS : Hid (M ≠ [] → rr.length = ls.length) := Lib.hid (fun hne => by
                    rw [HRL.out, hls]
                    refine (addI_row hI (hM ▸ hne) (fun c hc => ?_)).symm
                    rcases List.mem_append.1 hc with hc | hc
                    · obtain ⟨o', ho', hc⟩ := List.mem_flatMap.1 hc
                      obtain ⟨y, _, rfl⟩ := List.mem_map.1 hc
                      exact (HBO.out o' (List.mem_of_mem_take ho')).1
                    · obtain ⟨y, _, rfl⟩ := List.mem_map.1 hc
                      exact hok)
                  have HSEQ := Lib.hid (show s = (M, ls) by rw [hM, hls])
                  rw [← hM] at HSM9
                  rw [← hls] at HNL9
                  clear hn9 hb9 hcg3 hM hls hI HSM3 HNL3 HSM HNL
                  obtain ⟨mp0, mc0, rfl⟩ : ∃ mp mc, u5 = .slice mp M.length mc := by
                    obtain ⟨q, d, e⟩ := HSM9.out.shape
                    rw [List.length_map] at e
                    cases e
                    exact ⟨_, _, rfl⟩
                  go_upto_region 15 with fail
                  go_cut [52] (fun s52 wx => s52 = .bool (dec (M = [] ∨ lexL rr ls)) ∧ ∃ q, wx = wc.drewN q)
                  case first =>
                    by_cases hM : M = []
                    · have HD := Lib.hid (dec_true (show M = [] ∨ lexL rr ls from .inl hM))
                      have hM0 : ((M.length : Int) == 0) = true := by rw [hM]; rfl
                      clear hM
                      go_wp2_with fail
                      go_meet
                      exact ⟨by rw [HD.out], 0, rfl⟩
                    · have hMl : ¬ M.length = 0 := fun e => hM (List.eq_nil_of_length_eq_zero e)
                      have hMl' : ((M.length : Int) == 0) = false := by simp; exact hM
                      have hl0 := HLS.out hM
                      have HDL : Hid (dec (lessP rr ls) = dec (M = [] ∨ lexL rr ls)) := Lib.hid (dec_congr ⟨fun h => .inr ((lessP_lex hl0).1 h), fun h => (lessP_lex hl0).2 (h.resolve_left hM)⟩)
                      clear hM hl0
                      go_wp2_with (go_at_call 68; refine (l1Less_any _ _ rr ls _ HN9.out HNL9.out).mono ?_; rintro e w6 ⟨he6, q6, rfl⟩; rw [HDL.out] at he6; subst he6)
                      go_meet
                      exact ⟨rfl, q6, rfl⟩
                  case rest =>
                  obtain ⟨rfl, q6, rfl⟩ := hcut
                  go_upto_if 52 with (fail)
                  go_cut [5, 6] (fun s5 s6 wx => ∃ (M1 : List (List Nat)) (l1 : List Nat) (mp : Option Addr) (mc : Nat), s5 = .slice mp M1.length mc ∧ SG wx w2.heap.size (.agg #[s5]) (M1.map natInts) ∧ Nums wx 2 .i64 s6 (natInts l1) ∧ Below wc.heap.size wc wx ∧ M1.length ≤ 200000000 ∧
                    (((M = [] ∨ lexL rr ls) ∧ M1 = [] ∧ l1 = rr) ∨ (¬ (M = [] ∨ lexL rr ls) ∧ M1 = M ∧ l1 = ls)))
                  case first =>
                    by_cases hnew : M = [] ∨ lexL rr ls
                    · have HNW := Lib.hid hnew
                      rw [dec_true hnew]
                      clear hnew
                      go_wp2_with fail
                      go_meet
                      refine ⟨[], rr, _, _, rfl, ?_, HN9.out.below ((below_dN (Below.refl _ _) q6).alloc (Nat.le_refl _) _), (below_dN (Below.refl _ _) q6).alloc (Nat.le_refl _) _, by simp, .inl ⟨HNW.out, rfl, rfl⟩⟩
                      exact ⟨_, [], rfl, rfl, ownsRow_base (ownsRow_empty (wc.drewN q6) _ 1) (by have := HBX9.out.size; exact this), fun j hj => by simp at hj⟩
                    · have HNW := Lib.hid hnew
                      rw [dec_false hnew]
                      clear hnew
                      go_wp2_with fail
                      go_meet
                      exact ⟨M, ls, _, _, rfl, HSM9.out.below (below_dN (Below.refl _ _) q6), HNL9.out.below (below_dN (Below.refl _ _) q6), below_dN (Below.refl _ _) q6, HML.out, .inr ⟨HNW.out, rfl, rfl⟩⟩
                  case rest =>
                    obtain ⟨M1, l1, mp, mc, rfl, hsg1, hn1, hb1, hml, hor⟩ := hcut
                    have HA1 : Hid (rr = l1 → addC E s (o, x) = (M1 ++ [o ++ [x]], l1)) := Lib.hid (fun e => by
                      rw [HSEQ.out]
                      rcases hor with ⟨h, h1, h2⟩ | ⟨h, h1, h2⟩
                      · rw [addC_new (by rw [← HRW.out]; exact h), h1, h2, HRW.out]; rfl
                      · rw [addC_same (by rw [← HRW.out]; exact h) (by rw [← HRW.out, e, h2]), h1, h2])
                    have HA2 : Hid (¬ rr = l1 → addC E s (o, x) = (M1, l1)) := Lib.hid (fun e => by
                      rw [HSEQ.out]
                      rcases hor with ⟨h, h1, h2⟩ | ⟨h, h1, h2⟩
                      · exact absurd h2.symm e
                      · rw [addC_more (by rw [← HRW.out]; exact h) (by rw [← HRW.out, ← h2]; exact e), h1, h2])
                    have HSM1 := Lib.hid hsg1
                    have HNL1 := Lib.hid hn1
                    have HBX1 := Lib.hid (HBX9.out.trans (hb1.mono HBX9.out.size))
                    have HN91 := Lib.hid (HN9.out.below hb1)
                    have HNO1 := Lib.hid (HNO9.out.below hb1)
                    have hco1 := hb1.at' hco9
                    clear hsg1 hn1 hb1 hor hco9 HSM9 HNL9
                    by_cases heq : rr = l1
                    · have HAE := Lib.hid (HA1.out heq)
                      have HDS := Lib.hid (dec_true (natInts_inj.2 heq))
                      have hokl : (natInts o).length = k := by rw [natInts_length]; exact hok
                      have HOKL := Lib.hid hokl
                      have hml9 : M1.length < 1000000000 := by omega
                      have hkk : k < 1000000000 := by omega
                      obtain ⟨_, vals, e5, hvl, hom, hrm⟩ := HSM1.out
                      cases e5
                      rw [List.length_map] at hvl hom hrm
                      have HVL := Lib.hid hvl
                      have HRM := Lib.hid hrm
                      have HOM := Lib.hid hom
                      clear heq hokl hvl hom hrm
                      go_wp2_with (first
                        | (go_at_call 69; refine (l1Same_any _ _ _ _ _ HN91.out HNL1.out).mono ?_; rintro e w6 ⟨he6, q7, hw6⟩; rw [HDS.out] at he6; subst he6; have HB6 := Lib.hid (show Below wc.heap.size wc w6 by rw [hw6]; exact below_dN (Below.refl _ _) q7); have hco6 := HB6.out.at' hco1; clear hw6)
                        | (go_at_call 57; refine (l1Copy_any _ _ _ (oneCell_ints _ (natInts o)) (List.length_map ..) _ (HNO1.out.below HB6.out)).mono ?_; rintro e w7 ⟨u7, rfl, hown7, hb7⟩; rw [HOKL.out] at hown7; have HB7 := Lib.hid (HB6.out.trans (hb7.mono HB6.out.size)); have hs7 := hb7.size; clear hb7)
                        | (at_builtin; refine wpList_app1s ty_i64 rfl rfl rfl hown7 rfl rfl hkk hs7 ?_; intro b8 c8 w8 hown8 hg8 _; have HB8 := Lib.hid (below_grown HB7.out hown7 hg8 HB6.out.size HB7.out.size); have hom8 := ownsRow_below HOM.out HB8.out; have HW8 := Lib.hid hown8)
                        | (at_builtin; refine wpList_app1s ty_rows rfl rfl rfl hom8 rfl rfl hml9 (by have := HBX1.out.size; have := HB8.out.size; omega) ?_; intro b9 c9 w9 hown9 hg9 _))
                      have hg9' : w8.grownBy w9 (Value.slice mp M1.length mc).ownBlock := hg9
                      have hb9 : Below w2.heap.size w2 w9 := below_grown (HBX1.out.trans (HB8.out.mono HBX1.out.size)) hom8 hg9' (Nat.le_refl _) (by have := HBX1.out.size; have := HB8.out.size; omega)
                      have hnx : Nums w8 2 .i64 (.slice (some ⟨b8, 0, none⟩) (k + 1) c8) (natInts (o ++ [x])) := Nums.of_owns (by rw [natInts_snoc, List.map_append]; exact HW8.out) (by rw [natInts_length, List.length_append, hok]; rfl) (by omega)
                      have hsg9 : SG w9 w2.heap.size (.agg #[.slice (some ⟨b9, 0, none⟩) (M1.length + 1) c9]) ((M1 ++ [o ++ [x]]).map natInts) := by
                        rw [List.map_append]
                        have e := SG.snocB (w := w8) (g := M1.map natInts) (s := natInts (o ++ [x])) (vals := vals) (by rw [List.length_map]; exact HVL.out) (by rw [List.length_map]; exact hom8) (fun j hj => (HRM.out j (by rwa [List.length_map] at hj)).below HB8.out) (by rw [List.length_map]; exact hown9) hg9' hnx
                        exact e
                      have HS9 := Lib.hid hsg9
                      have HB9x := Lib.hid hb9
                      have HN9x := Lib.hid ((HNL1.out.below HB8.out).other hom8 hg9' (by decide))
                      clear hsg9 hb9 hnx hg9' hown9 hg9 hom8 hown8 hg8
                      go_roundw
                      case rel => exact ⟨x + 1, (M1 ++ [o ++ [x]], l1), by omega, by go_num, Lib.hid (hxs.out _ HAE.out.symm HV.out), HS9.out, HN9x.out, HB9x.out⟩
                      case measure => simp [intOf]; omega
                    · have HAE := Lib.hid (HA2.out heq)
                      have HDS := Lib.hid (dec_false (fun q => heq (natInts_inj.1 q)))
                      clear heq
                      go_wp2_with (go_at_call 69; refine (l1Same_any _ _ _ _ _ HN91.out HNL1.out).mono ?_; rintro e w6 ⟨he6, q6, rfl⟩; rw [HDS.out] at he6; subst he6)
                      go_roundw
                      case rel => exact ⟨x + 1, (M1, l1), by omega, by go_num, Lib.hid (hxs.out _ HAE.out.symm HV.out), HSM1.out.below (below_dN (Below.refl _ _) q6), HNL1.out.below (below_dN (Below.refl _ _) q6), below_dN HBX1.out q6⟩
                      case measure => simp [intOf]; omega
            · obtain rfl : x = g.length := by omega
              go_wp2_with (first
                | (go_at_call 50; refine (l1Size_any _ g _ HGx.out).mono ?_; rintro e w3 ⟨rfl, hb3⟩; have HB3 := Lib.hid (HBX.out.trans (hb3.mono hb.size)); have HSM3 := Lib.hid (HSM.out.below hb3); have HNL3 := Lib.hid (HNL.out.below hb3); clear hb3))
              go_roundw
              case rel => exact ⟨i + 1, s, by omega, by go_num, Lib.hid (by rw [cand_take hlti, ← HOO.out]; exact HS.out), HSM3.out, HNL3.out, HB3.out⟩
              case measure => simp [intOf]; omega
        · obtain rfl : i = B.length := by omega
          have hfin : Hid (levB g.length E (k + 1) = s.1) := Lib.hid (by rw [HS.out, List.take_length, HBB.out]; rfl)
          go_wp2_with fail
          go_roundw
          case rel => exact ⟨k + 1, by omega, by go_num, by rw [hfin.out]; exact HSM.out.base HB2.out.size, HB2.out.trans (HBX.out.mono HB2.out.size)⟩
          case measure => simp [intOf]; omega
    · obtain rfl : k = g.length := by omega
      go_wp2_with (first
        | (go_at_call 50; refine (l1Size_any _ g _ HG1.out).mono ?_; rintro e w2 ⟨rfl, hb2⟩; have HB2 := Lib.hid (HB.out.trans (hb2.mono hb.size)); have HSB := Lib.hid (HSG.out.below hb2); clear hb2))
      go_ret
      exact ⟨_, rfl, by rw [← HBB.out]; exact HSB.out.base (by have := SZ0.out; omega), HB0.out.trans (HB2.out.mono (by have := SZ0.out; omega))⟩

end Go.Proofs.YtiklocamfgopbaaDoor
