/- Walks: the reference's path bags. -/
import Derived.Test.YtlhkhibnbmnjiaaDoorBgA
import Derived.Test.YtlhkhibnbmnjiaaDoorPsA
import Derived.Test.YtlhkhibnbmnjiaaDoorSpecA
import Derived.Deep.RegionHeld3
import Derived.Deep.DeepCutAuto
namespace Go.Proofs.YtlhkhibnbmnjiaaDoor
open Go.RowKit

/-- Those up to the k-th that are open. -/
structure OpI (E : Nat → Nat → Bool) (n : Nat) (pre D : List Nat) (k : Nat) : Prop where
  ris : D.Pairwise (· < ·)
  mem : ∀ x, x ∈ D ↔ x ∈ pre.take k ∧ openB n E pre x = true
/-- While the k-th one's neighbours R are looked at. -/
structure OpJ (E : Nat → Nat → Bool) (n : Nat) (pre D R : List Nat) (u t : Nat) (D2 : List Nat) : Prop where
  ris : D2.Pairwise (· < ·)
  mem : ∀ x, x ∈ D2 ↔ x ∈ D ∨ (x = u ∧ ∃ y ∈ R.take t, y ∉ pre)
theorem OpI.start' (E : Nat → Nat → Bool) (n : Nat) (pre : List Nat) : OpI E n pre [] 0 := ⟨by simp, fun x => by simp⟩
theorem OpI.go {E : Nat → Nat → Bool} {n k : Nat} {pre D : List Nat} (h : OpI E n pre D k) (R : List Nat) (u : Nat) : OpJ E n pre D R u 0 D := ⟨h.ris, fun x => by simp⟩
theorem OpJ.skip {E : Nat → Nat → Bool} {n u t : Nat} {pre D R D2 : List Nat} (h : OpJ E n pre D R u t D2) (ht : t < R.length) (hin : R[t] ∈ pre) : OpJ E n pre D R u (t + 1) D2 :=
  ⟨h.ris, fun x => by
    rw [h.mem, take_snoc _ t ht]
    refine or_congr Iff.rfl (and_congr Iff.rfl ⟨fun ⟨y, a, b⟩ => ⟨y, List.mem_append.2 (.inl a), b⟩, fun ⟨y, a, b⟩ => ?_⟩)
    rcases List.mem_append.1 a with a | a
    · exact ⟨y, a, b⟩
    · obtain rfl : y = R[t] := by simpa using a
      exact absurd hin b⟩
theorem OpJ.add {E : Nat → Nat → Bool} {n u t : Nat} {pre D R D2 D3 : List Nat} (h : OpJ E n pre D R u t D2) (ht : t < R.length) (hin : R[t] ∉ pre) (hr : D3.Pairwise (· < ·)) (hm : ∀ x, x ∈ D3 ↔ x ∈ D2 ∨ x = u) : OpJ E n pre D R u (t + 1) D3 :=
  ⟨hr, fun x => by
    rw [hm, h.mem, take_snoc _ t ht]
    constructor
    · rintro ((a | ⟨a, y, b, c⟩) | a)
      · exact .inl a
      · exact .inr ⟨a, y, List.mem_append.2 (.inl b), c⟩
      · exact .inr ⟨a, R[t], List.mem_append.2 (.inr (by simp)), hin⟩
    · rintro (a | ⟨a, _⟩)
      · exact .inl (.inl a)
      · exact .inr a⟩
theorem OpJ.fin {E : Nat → Nat → Bool} {n k u : Nat} {pre D R D2 : List Nat} (h : OpJ E n pre D R u R.length D2) (hI : OpI E n pre D k) (hk : k < pre.length) (hu : pre[k] = u) (hR : R = (List.range n).filter (E u)) : OpI E n pre D2 (k + 1) :=
  ⟨h.ris, fun x => by
    have hup : u ∈ pre := hu ▸ List.getElem_mem hk
    rw [h.mem, hI.mem, take_snoc _ k hk, List.take_length, hu, List.mem_append, List.mem_singleton]
    have e : (∃ y ∈ R, y ∉ pre) ↔ openB n E pre u = true := by
      rw [openB_iff, hR]
      constructor
      · rintro ⟨y, a, b⟩
        obtain ⟨a1, a2⟩ := List.mem_filter.1 a
        exact ⟨hup, y, List.mem_range.1 a1, a2, b⟩
      · rintro ⟨_, y, a, b, c⟩
        exact ⟨y, List.mem_filter.2 ⟨List.mem_range.2 a, b⟩, c⟩
    rw [e]
    constructor
    · rintro (⟨a, b⟩ | ⟨rfl, b⟩)
      · exact ⟨.inl a, b⟩
      · exact ⟨.inr rfl, b⟩
    · rintro ⟨a | rfl, b⟩
      · exact .inl ⟨a, b⟩
      · exact .inr ⟨rfl, b⟩⟩
theorem OpI.done {E : Nat → Nat → Bool} {n : Nat} {pre D : List Nat} (h : OpI E n pre D pre.length) (hp : ∀ x ∈ pre, x < n) : D = opensP n E pre :=
  rising_ext _ _ h.ris (opensP_rising n E pre) fun x => by
    rw [h.mem, List.take_length, mem_opensP]
    exact ⟨fun ⟨a, b⟩ => ⟨hp x a, b⟩, fun ⟨_, b⟩ => ⟨(openB_iff.1 b).1, b⟩⟩
theorem OpJ.len {E : Nat → Nat → Bool} {n k u t : Nat} {pre D R D2 : List Nat} (h : OpJ E n pre D R u t D2) (hI : OpI E n pre D k) (hu : u < n) (hp : ∀ x ∈ pre, x < n) : D2.length ≤ n := by
  have := rising_sub_len List.pairwise_lt_range h.ris (L := List.range n) fun x hx => List.mem_range.2 (by
    rcases (h.mem x).1 hx with a | ⟨rfl, _⟩
    · exact hp x (List.mem_of_mem_take ((hI.mem x).1 a).1)
    · exact hu)
  rwa [List.length_range] at this

set_option maxRecDepth 100000 in
set_option maxHeartbeats 4000000 in
theorem l12Open_any (v lv : Value) (n : Nat) (E : Nat → Nat → Bool) (pre : List Nat) (hn : n ≤ 16) (hp : ∀ x ∈ pre, x < n) (hpl : pre.length ≤ 16) (w : World) (hg : Gr w v (matG n E)) (hl : Nums w 2 .i64 lv (natInts pre)) :
    Calls Tryd.prog 34 #[v, lv] w fun e w' => ∃ r, e = .returned r ∧ Nums w' 2 .i64 r (natInts (opensP n E pre)) ∧ Below w.heap.size w w' := by
  obtain ⟨g0, rfl, hr⟩ := hg
  obtain ⟨p, c, rfl, _⟩ := hr.shape
  obtain ⟨lp, lc, rfl, _⟩ := id hl.shape
  have HR := Lib.hid hr
  have HN := Lib.hid hl
  have HP := Lib.hid hp
  have HBX := Lib.hid ((Box.new w (.slice p (matG n E).length c) 28).alloc (.cells #[] 2))
  have HB := Lib.hid ((below_alloc w (.cells #[.slice p (matG n E).length c] 28)).alloc (below_alloc w _).size (.cells #[] 2))
  clear hr hl hp
  go_enter Tryd.func34, Tryd.ntmps34
  go_wp2
  go_loopw [5, 6] (fun o i wr => ∃ D k, k ≤ pre.length ∧ i = .int .i64 k ∧ OpI E n pre D k ∧ Nums wr 2 .i64 o (natInts D) ∧ Below w.heap.size w wr ∧ Box wr w.heap.size 28 (.slice p (matG n E).length c)) (fun _ i _ => pre.length - (intOf i).toNat)
  case atStart =>
    refine ⟨[], 0, Nat.zero_le _, rfl, .start' E n pre, ?_, HB.out, HBX.out⟩
    have := ownsRow_empty (w.alloc (.cells #[.slice p (matG n E).length c] 28)) 2 1
    rw [size_alloc] at this
    exact Nums.of_owns (xs := []) this rfl (by decide)
  case round =>
    obtain ⟨D, k, hk, rfl, hI, hD, hbel, hbx⟩ := hrel
    obtain ⟨dp, dc, rfl, _⟩ := id hD.shape
    have HN1 := HN.out.below hbel
    have hc := hbx.cell
    have HI := Lib.hid (And.intro hI (And.intro hD (And.intro hbel hbx)))
    simp only [natInts_length] at *
    by_cases hlt : k < pre.length
    · obtain ⟨lb, lo, rfl, hlc⟩ := HN1.get (k := k) (by rw [natInts_length]; exact hlt)
      rw [natInts_atQ hlt] at hlc
      have hup := HP.out _ (List.getElem_mem hlt)
      have HLT := Lib.hid hlt
      generalize hy : pre[k]'hlt = u at hlc hup
      have HY := Lib.hid hy
      obtain ⟨rb, ro, rp, rc, hpe, hrc, hrow⟩ := (HR.out.below hbel).get (k := u) (by rw [matG_length]; exact hup)
      cases hpe
      have hrm : (matG n E).getD u [] = natInts ((List.range n).filter (E u)) := row_matG hup
      rw [hrm] at hrc
      change Nums _ _ _ _ (row (matG n E) u) at hrow
      rw [row_matG hup] at hrow
      change Nums _ _ _ (.slice rp ((matG n E).getD u []).length rc) _ at hrow
      rw [hrm] at hrow
      have hul : u < (matG n E).length := by rw [matG_length]; exact hup
      have hfl : ((List.range n).filter (E u)).length ≤ n := Nat.le_trans (List.length_filter_le _ _) (by simp)
      clear hI hD hbel hbx HN1 hy
      go_wp2
      have START := Lib.hid (And.intro HI.out.2.1 (And.intro HI.out.2.2.1 HI.out.2.2.2))
      go_loopw [5, 7] (fun o i wx => ∃ D2 t, t ≤ ((List.range n).filter (E u)).length ∧ i = .int .i64 t ∧ OpJ E n pre D ((List.range n).filter (E u)) u t D2 ∧ Nums wx 2 .i64 o (natInts D2) ∧ Below w.heap.size w wx ∧ Box wx w.heap.size 28 (.slice (some ⟨rb, ro, none⟩) (matG n E).length c)) (fun _ i _ => ((List.range n).filter (E u)).length - (intOf i).toNat)
      case atStart => exact ⟨D, 0, Nat.zero_le _, rfl, HI.out.1.go _ _, START.out.1, START.out.2.1, START.out.2.2⟩
      case round =>
        clear START hc hlc hrc hrow
        obtain ⟨D2, t, ht, rfl, hJ, hD2, hbel, hbx⟩ := hrel
        obtain ⟨dp2, dc2, rfl, _⟩ := id hD2.shape
        have hc := hbx.cell
        have HN2 := HN.out.below hbel
        obtain ⟨_, _, e2, hlc⟩ := HN2.get (k := k) (by rw [natInts_length]; exact hlt)
        cases e2
        rw [natInts_atQ hlt, HY.out] at hlc
        have HN3 := Lib.hid HN2
        obtain ⟨_, _, rp, rc, hpe, hrc, hrow⟩ := (HR.out.below hbel).get (k := u) (by rw [matG_length]; exact hup)
        cases hpe
        rw [hrm] at hrc
        change Nums _ _ _ _ (row (matG n E) u) at hrow
        rw [row_matG hup] at hrow
        change Nums _ _ _ (.slice rp ((matG n E).getD u []).length rc) _ at hrow
        rw [hrm] at hrow
        have hsub := hJ.len HI.out.1 hup HP.out
        have HJ := Lib.hid (And.intro hJ (And.intro hD2 (And.intro hbel hbx)))
        clear hJ hD2 hbx HN2
        simp only [natInts_length] at *
        by_cases htl : t < ((List.range n).filter (E u)).length
        · obtain ⟨qb, qo, rfl, hqc⟩ := hrow.get (k := t) (by rw [natInts_length]; exact htl)
          rw [natInts_atQ htl] at hqc
          have HTL := Lib.hid htl
          clear hrow
          generalize hz : ((List.range n).filter (E u))[t]'htl = z at hqc
          have HZ := Lib.hid hz
          clear hz
          go_upto_region 6 with fail
          go_cut [25] (fun s wx => s = .bool true ∧ Below wr.heap.size wr wx)
          case first =>
            go_region_held3 (fun w' => w'.cell? ⟨w.heap.size, 0, none⟩ = some (.slice (some ⟨rb, ro, none⟩) (matG n E).length c) ∧ w'.cell? ⟨lb, lo + k, none⟩ = some (.int .i64 u) ∧ w'.cell? ⟨rb, ro + u, none⟩ = some (.slice (some ⟨qb, qo, none⟩) ((List.range n).filter (E u)).length rc))
              (first | go_keep | exact ⟨hc, hlc, hrc⟩)
              (first | fail)
            all_goals go_wp2
            all_goals go_meet
            all_goals exact ⟨rfl, below_dN (Below.refl _ _) 1⟩
          case rest =>
            obtain ⟨rfl, hb9⟩ := hcut
            have c1 := hb9.at' hc
            have c2 := hb9.at' hlc
            have c3 := hb9.at' hrc
            have c4 := hb9.at' hqc
            have HB9 := Lib.hid hb9
            clear hc hlc hrc hqc hb9
            by_cases hin : z ∈ pre
            · have hd : dec ((z : Int) ∈ natInts pre) = true := dec_true (mem_natInts.2 ⟨z, hin, rfl⟩)
              have HIN := Lib.hid hin
              clear hin
              go_upto_region 8 with fail
              go_cut [41] (fun s wy => s = .bool false ∧ Below wc.heap.size wc wy)
              case first =>
                go_region_held3 (fun w' => w'.cell? ⟨w.heap.size, 0, none⟩ = some (.slice (some ⟨rb, ro, none⟩) (matG n E).length c) ∧ w'.cell? ⟨lb, lo + k, none⟩ = some (.int .i64 u) ∧ w'.cell? ⟨rb, ro + u, none⟩ = some (.slice (some ⟨qb, qo, none⟩) ((List.range n).filter (E u)).length rc) ∧ w'.cell? ⟨qb, qo + t, none⟩ = some (.int .i64 z))
                  (first | go_keep | exact ⟨c1, c2, c3, c4⟩ | exact ⟨BWA.at' c1, BWA.at' c2, BWA.at' c3, BWA.at' c4⟩)
                  (first | (go_at_call 31; refine (l1Has_any _ (natInts pre) _ _ ((HN3.out.below HB9.out).below (below_dN (Below.refl _ _) 1))).mono ?_; rintro e w4 ⟨he4, hw4⟩; rw [hd] at he4; subst he4; have BWA : Below wc.heap.size wc w4 := hw4 ▸ below_dN (Below.refl _ _) 1; clear hw4))
                all_goals go_wp2
                all_goals go_meet
                all_goals exact ⟨rfl, BWA⟩
              case rest =>
                obtain ⟨rfl, hb10⟩ := hcut
                have hb11 := HB9.out.trans (hb10.mono HB9.out.size)
                go_wp2
                go_roundw
                case rel => exact ⟨D2, t + 1, by omega, by go_num, HJ.out.1.skip HTL.out (by rw [HZ.out]; exact HIN.out), HJ.out.2.1.below hb11, HJ.out.2.2.1.trans (hb11.mono HJ.out.2.2.1.size), HJ.out.2.2.2.keep hb11⟩
                case measure => simp [intOf]; omega
            · have hd : dec ((z : Int) ∈ natInts pre) = false := dec_false (new_nat hin)
              have HIN := Lib.hid hin
              clear hin
              go_upto_region 8 with fail
              go_cut [41] (fun s wy => s = .bool true ∧ Below wc.heap.size wc wy)
              case first =>
                go_region_held3 (fun w' => w'.cell? ⟨w.heap.size, 0, none⟩ = some (.slice (some ⟨rb, ro, none⟩) (matG n E).length c) ∧ w'.cell? ⟨lb, lo + k, none⟩ = some (.int .i64 u) ∧ w'.cell? ⟨rb, ro + u, none⟩ = some (.slice (some ⟨qb, qo, none⟩) ((List.range n).filter (E u)).length rc) ∧ w'.cell? ⟨qb, qo + t, none⟩ = some (.int .i64 z))
                  (first | go_keep | exact ⟨c1, c2, c3, c4⟩ | exact ⟨BWA.at' c1, BWA.at' c2, BWA.at' c3, BWA.at' c4⟩)
                  (first | (go_at_call 31; refine (l1Has_any _ (natInts pre) _ _ ((HN3.out.below HB9.out).below (below_dN (Below.refl _ _) 1))).mono ?_; rintro e w4 ⟨he4, hw4⟩; rw [hd] at he4; subst he4; have BWA : Below wc.heap.size wc w4 := hw4 ▸ below_dN (Below.refl _ _) 1; clear hw4))
                all_goals go_wp2
                all_goals go_meet
                all_goals exact ⟨rfl, BWA⟩
              case rest =>
                obtain ⟨rfl, hb10⟩ := hcut
                have hb11 := HB9.out.trans (hb10.mono HB9.out.size)
                have c2' := hb10.at' c2
                obtain ⟨D3, h31, h32, h33⟩ := into_any HJ.out.1.ris u
                have H31 := Lib.hid h31
                have H32 := Lib.hid h32
                have H33 := Lib.hid h33
                clear h31 h32 h33 c1 c2 c3 c4
                go_wp2_with (go_at_call 33; refine (l1Into_any _ (natInts D2) _ (by rw [natInts_length]; omega) _ (HJ.out.2.1.below hb11)).mono ?_; rintro e w6 ⟨u6, rfl, hn6, hb6⟩)
                go_roundw
                case rel =>
                  have hb12 := hb11.trans (hb6.mono hb11.size)
                  exact ⟨D3, t + 1, by omega, by go_num, HJ.out.1.add HTL.out (by rw [HZ.out]; exact HIN.out) H32.out H33.out, by rw [← H31.out]; exact hn6, HJ.out.2.2.1.trans (hb12.mono HJ.out.2.2.1.size), HJ.out.2.2.2.keep hb12⟩
                case measure => simp [intOf]; omega
        · obtain rfl : t = ((List.range n).filter (E u)).length := by omega
          clear hrow
          go_upto_region 6 with fail
          go_cut [25] (fun s wx => s = .bool false ∧ Below wr.heap.size wr wx)
          case first =>
            go_region_held3 (fun w' => w'.cell? ⟨w.heap.size, 0, none⟩ = some (.slice (some ⟨rb, ro, none⟩) (matG n E).length c) ∧ w'.cell? ⟨lb, lo + k, none⟩ = some (.int .i64 u) ∧ w'.cell? ⟨rb, ro + u, none⟩ = some (.slice rp ((List.range n).filter (E u)).length rc))
              (first | go_keep | exact ⟨hc, hlc, hrc⟩)
              (first | fail)
            all_goals go_wp2
            all_goals go_meet
            all_goals exact ⟨rfl, below_dN (Below.refl _ _) 1⟩
          case rest =>
          obtain ⟨rfl, hb9⟩ := hcut
          go_wp2
          go_roundw
          case rel => exact ⟨D2, k + 1, by omega, by go_num, HJ.out.1.fin HI.out.1 HLT.out HY.out rfl, HJ.out.2.1.below hb9, HJ.out.2.2.1.trans (hb9.mono HJ.out.2.2.1.size), HJ.out.2.2.2.keep hb9⟩
          case measure => simp [intOf]; omega
    · obtain rfl : k = pre.length := by omega
      go_wp2
      go_ret
      exact ⟨_, rfl, by rw [← HI.out.1.done HP.out]; exact HI.out.2.1, hbel⟩

theorem nums_take {w : World} {E : TypeId} {a : Addr} {m c k : Nat} {l : List Nat} (h : Nums w E .i64 (.slice (some a) m c) (natInts l)) (hk : k ≤ l.length) : Nums w E .i64 (.slice (some a) k c) (natInts (l.take k)) := by
  obtain ⟨p, c', e, hp, hnc, hn, hat⟩ := h.shape
  simp only [Value.slice.injEq] at e
  obtain ⟨rfl, _, rfl⟩ := e
  rw [natInts_length] at hnc hn
  have e2 : (natInts (l.take k)).length = k := by rw [natInts_length, List.length_take]; omega
  have e3 : (natInts (l.take k)).map (Value.int .i64) = ((natInts l).map (Value.int .i64)).take k := by simp [natInts, List.map_take]
  refine ⟨_, _, by rw [e2], (fun e => by cases e), by rw [e2]; omega, by rw [e2]; omega, ?_⟩
  rw [e3]
  exact hat.take k
theorem into_bag {n : Nat} {E : Nat → Nat → Bool} {l : List Nat} {t v : Nat} (ht : t < l.length) (hv : l[t] = v) (hvn : v < n) : intoL (natInts (opensP n E (l.take t))) (v : Int) = natInts (bagP n E l t) := by
  obtain ⟨D', h1, h2, h3⟩ := into_any (opensP_rising n E (l.take t)) v
  rw [h1]
  congr 1
  refine rising_ext _ _ h2 (bagP_rising n E l t) fun x => ?_
  have e : l[t]? = some v := by rw [List.getElem?_eq_getElem ht, hv]
  rw [h3, mem_bagP, mem_opensP, e]
  simp only [Option.some.injEq]
  constructor
  · rintro (⟨a, b⟩ | rfl)
    · exact ⟨a, .inr b⟩
    · exact ⟨hvn, .inl rfl⟩
  · rintro ⟨a, rfl | b⟩
    · exact .inr rfl
    · exact .inl ⟨a, b⟩

set_option maxRecDepth 100000 in
set_option maxHeartbeats 4000000 in
theorem l12Bags_any (v lv : Value) (n : Nat) (E : Nat → Nat → Bool) (l : List Nat) (hn : n ≤ 16) (hp : ∀ x ∈ l, x < n) (hpl : l.length ≤ 16) (w : World) (hg : Gr w v (matG n E)) (hl : Nums w 2 .i64 lv (natInts l)) :
    Calls Tryd.prog 19 #[v, lv] w fun e w' => ∃ r, e = .returned r ∧ SG w' w.heap.size (.agg #[r]) ((bagsP n E l l.length).map natInts) ∧ Below w.heap.size w w' := by
  have hg0 := hg
  obtain ⟨g0, rfl, hr⟩ := hg
  obtain ⟨p, c, rfl, _⟩ := hr.shape
  obtain ⟨lp, lc, rfl, _⟩ := id hl.shape
  have HG := Lib.hid hg0
  have HN := Lib.hid hl
  have HP := Lib.hid hp
  have HBX := Lib.hid ((Box.new w (.slice p (matG n E).length c) 28).alloc (.cells #[] 25))
  have HB := Lib.hid ((below_alloc w (.cells #[.slice p (matG n E).length c] 28)).alloc (below_alloc w _).size (.cells #[] 25))
  clear hr hg0 hl hp
  go_enter Tryd.func19, Tryd.ntmps19
  go_wp2
  go_loopw [5, 6] (fun o i wr => ∃ k, k ≤ l.length ∧ i = .int .i64 k ∧ SG wr (w.heap.size + 1) (.agg #[o]) ((bagsP n E l k).map natInts) ∧ Below w.heap.size w wr ∧ Box wr w.heap.size 28 (.slice p (matG n E).length c)) (fun _ i _ => l.length - (intOf i).toNat)
  case atStart =>
    refine ⟨0, Nat.zero_le _, rfl, ⟨_, [], rfl, rfl, ?_, fun j hj => by simp [bagsP] at hj⟩, HB.out, HBX.out⟩
    exact ownsRow_empty' w _ _ _ _ (Nat.le_refl _)
  case round =>
    obtain ⟨k, hk, rfl, hO, hbel, hbx⟩ := hrel
    obtain ⟨op, oc, rfl⟩ := sg_shape hO
    have HN1 := HN.out.below hbel
    have hc := hbx.cell
    have hsz := hbel.size
    have hs1 : w.heap.size + 1 ≤ wr.heap.size := hbx.lt
    have Hbel := Lib.hid hbel
    have Hbx := Lib.hid hbx
    have HO := Lib.hid hO
    simp only [natInts_length, List.length_map, bagsP_length] at *
    by_cases hlt : k < l.length
    · obtain ⟨lb, lo, rfl, hlc⟩ := HN1.get (k := k) (by rw [natInts_length]; exact hlt)
      rw [natInts_atQ hlt] at hlc
      have hup := HP.out _ (List.getElem_mem hlt)
      have HLT := Lib.hid hlt
      obtain ⟨_, vals, e1, hv1, hv2, hv3⟩ := hO
      cases e1
      rw [List.length_map, bagsP_length] at hv1 hv2 hv3
      have HV1 := Lib.hid hv1
      have HV2 := Lib.hid hv2
      have HV3 := Lib.hid hv3
      have hat := HN1.shape
      obtain ⟨_, _, e3, _, hnc, hn9, hatt⟩ := hat
      have hkc : l.length ≤ lc := by
        simp only [Value.slice.injEq, natInts_length] at e3
        obtain ⟨_, _, rfl⟩ := e3
        simpa [natInts_length] using hnc
      have HPRE : Hid (Nums wr 2 .i64 (.slice (some ⟨lb, lo, none⟩) k lc) (natInts (l.take k))) := Lib.hid (nums_take HN1 (by omega))
      generalize hy : l[k]'hlt = y at hlc hup
      have HY := Lib.hid hy
      clear hv1 hv2 hv3 hbx hbel hy hatt e3 hnc HN1
      have hz0 : (0 : Int) ≤ (k : Int) := by omega
      have hz1 : (k : Int) ≤ (lc : Int) := by omega
      have hz2 : (k : Int) ≤ (l.length : Int) := by omega
      go_upto_region 5 with fail
      go_region_held3 (fun w' => w'.cell? ⟨w.heap.size, 0, none⟩ = some (.slice p (matG n E).length c) ∧ w'.cell? ⟨lb, lo + k, none⟩ = some (.int .i64 y))
        (first | go_keep | exact ⟨hc, hlc⟩ | exact ⟨BXC, hlc9⟩ | exact ⟨BWB.at' hc, BWB.at' hlc⟩ | exact ⟨BWA.at' hc, BWA.at' hlc⟩)
        (first
          | (go_at_call 34; refine (l12Open_any _ _ n E (l.take k) hn (fun x hx => HP.out x (List.mem_of_mem_take hx)) (by rw [List.length_take]; omega) _ ((HG.out.below Hbel.out).below (below_dN (Below.refl _ _) 1)) (HPRE.out.below (below_dN (Below.refl _ _) 1))).mono ?_; rintro e w4 ⟨ov, rfl, ho4, hb4⟩; have HO4 := Lib.hid ho4; have BWA : Below wr.heap.size wr w4 := (below_dN (Below.refl _ _) 1).trans hb4; clear ho4 hb4)
          | (go_at_call 33; refine (l1Into_any _ (natInts (opensP n E (l.take k))) y (by have := opensP_length n E (l.take k); rw [natInts_length]; omega) _ HO4.out).mono ?_; rintro e w5 ⟨rv, rfl, hr5, hb5⟩; rw [into_bag HLT.out HY.out hup] at hr5; obtain ⟨rvp, rvc, rfl, _⟩ := id hr5.shape; have HR5 := Lib.hid hr5; have BWB : Below wr.heap.size wr w5 := BWA.trans (hb5.mono BWA.size); have hv5 := ownsRow_below HV2.out BWB; have hs5 := BWB.size; clear hr5 hb5)
          | (refine step_app1s ty_rows64 rfl rfl rfl hv5 rfl rfl (by omega) (by omega) ?_; intro b7 c8 w7 hown7 hg7; have BWC := below_grown (Hbel.out.trans (BWB.mono hsz)) hv5 hg7 (by omega) (by omega); have BXC := (((Hbx.out.keep BWB).grown hg7 (fun e => by have := (hv5.lt _ e.symm).1; omega))).cell; have HNC := HN.out.below BWC; obtain ⟨_, _, e9, hlc9⟩ := HNC.get (k := k) (by rw [natInts_length]; exact HLT.out); cases e9; rw [natInts_atQ HLT.out, HY.out] at hlc9))
      all_goals
        have HFIN : Hid (SG w7 (w.heap.size + 1) (.agg #[.slice (some ⟨b7, 0, none⟩) (k + 1) c8]) ((bagsP n E l (k + 1)).map natInts)) := Lib.hid (by
          rw [bagsP_succ]
          refine SG.snocP (u := .slice op k oc) (by rw [bagsP_length]; exact HV1.out) (by rw [bagsP_length]; exact hv5) (fun j hj => (HV3.out j (by rw [bagsP_length] at hj; exact hj)).below BWB) (by rw [bagsP_length]; exact hown7) hg7 HR5.out)
        have HBL := Lib.hid (below_grown (Hbel.out.trans (BWB.mono hsz)) hv5 hg7 (by omega) (by omega))
        have HBX2 := Lib.hid ((Hbx.out.keep BWB).grown hg7 (fun e => by have := (hv5.lt _ e.symm).1; omega))
        clear hown7 hv5 hg7 hlc9 BXC HNC
        go_wp2
        go_roundw
        case rel => exact ⟨k + 1, by omega, by go_num, HFIN.out, HBL.out, HBX2.out⟩
        case measure => simp [intOf]; omega
    · obtain rfl : k = l.length := by omega
      go_wp2
      go_ret
      exact ⟨_, rfl, sg_base HO.out (by omega), Hbel.out⟩

set_option maxRecDepth 100000 in
set_option maxHeartbeats 2000000 in
theorem specPathBags_any (v lv : Value) (g : List (List Int)) (l : List Int) (w : World) (hg : Gr w v g) (hn : Nums w 2 .i64 lv l) :
    Calls Tryd.prog 5 #[v, lv] w fun e w' => ∃ (u : Value) (gg : List (List Int)), e = .returned u ∧ PbS g l gg ∧ SG w' w.heap.size (.agg #[u]) gg ∧ gg.length ≤ 16 ∧ (∀ j, (row gg j).length ≤ 32) ∧ Below w.heap.size w w' := by
  have hg0 := hg
  obtain ⟨u, rfl, hr⟩ := hg
  obtain ⟨p, c, rfl, _⟩ := hr.shape
  have hbA := Lib.hid (below_alloc w (.cells #[.slice p g.length c] 28))
  have BX := Lib.hid (Box.new w (.slice p g.length c) 28)
  have HG := Lib.hid (hg0.below hbA.out)
  have HN := Lib.hid (hn.below hbA.out)
  have h0 := hbA.out.size
  have hbx0 := BX.out.cell
  clear hr hg0 hn
  by_cases hok : GOk g ∧ OrdOk g.length l
  case neg =>
    have hd2 := dec_false hok
    have Hok := Lib.hid hok
    by_cases hg1 : GOk g
    · have hd := dec_true hg1
      clear hok hg1
      go_enter Tryd.func5, Tryd.ntmps5
      go_wp2_with (first
        | (go_at_call 17; refine (specGraphOk_any _ g _ HG.out).mono ?_; rintro e w2 ⟨he, hb2⟩; rw [hd] at he; subst he; have hbx := (BX.out.keep hb2).cell)
        | (go_at_call 18; refine (specOrderOk_any _ _ g l _ (HG.out.below hb2) (HN.out.below hb2)).mono ?_; rintro e w3 ⟨he3, hb3⟩; rw [hd2] at he3; subst he3))
      go_ret
      have s2 := hb2.size
      have s3 := hb3.size
      exact ⟨_, [], rfl, .inr ⟨rfl, Hok.out⟩, ⟨_, [], rfl, rfl, ownsRow_base (ownsRow_empty w3 _ _) (by omega), fun j hj => by simp at hj⟩, by simp, fun j => by simp [row], ((hbA.out.trans (hb2.mono h0)).trans (hb3.mono (by omega))).alloc (by omega) _⟩
    · have hd := dec_false hg1
      clear hok hg1
      go_enter Tryd.func5, Tryd.ntmps5
      go_wp2_with (go_at_call 17; refine (specGraphOk_any _ g _ HG.out).mono ?_; rintro e w2 ⟨he, hb2⟩; rw [hd] at he; subst he)
      go_ret
      have s2 := hb2.size
      exact ⟨_, [], rfl, .inr ⟨rfl, Hok.out⟩, ⟨_, [], rfl, rfl, ownsRow_base (ownsRow_empty w2 _ _) (by omega), fun j hj => by simp at hj⟩, by simp, fun j => by simp [row], (hbA.out.trans (hb2.mono h0)).alloc (by omega) _⟩
  have hd := dec_true hok.1
  have hd2 := dec_true hok
  have hle := hok.1.le
  have hll16 : l.length ≤ 16 := by have := hok.2.1; omega
  have Hok := Lib.hid hok
  obtain ⟨ln, hln⟩ : ∃ ln, ln = l.map Int.toNat := ⟨_, rfl⟩
  have hlN : natInts ln = l := by rw [hln]; exact natInts_toNatB fun x hx => (hok.2.2.1 x hx).1
  have hlnl := Lib.hid (show ln.length = l.length by rw [hln, List.length_map])
  have hln16 : ln.length ≤ 16 := by have := hlnl.out; omega
  have hlt : ∀ v ∈ ln, v < g.length := fun v hv => by
    rw [hln] at hv
    obtain ⟨x, hx, rfl⟩ := List.mem_map.1 hv
    have := hok.2.2.1 x hx
    omega
  have HLN := Lib.hid hlN
  have HLT := Lib.hid hlt
  have hlnE := Lib.hid hln
  clear hok hln hlN hlt
  go_enter Tryd.func5, Tryd.ntmps5
  go_wp2_with (first
    | (go_at_call 17; refine (specGraphOk_any _ g _ HG.out).mono ?_; rintro e w2 ⟨he, hb2⟩; rw [hd] at he; subst he; have hbx := (BX.out.keep hb2).cell)
    | (go_at_call 18; refine (specOrderOk_any _ _ g l _ (HG.out.below hb2) (HN.out.below hb2)).mono ?_; rintro e w3 ⟨he3, hb3⟩; rw [hd2] at he3; subst he3; have hbx3 := hb3.at' hbx)
    | (go_at_call 19; refine (l12Bags_any _ _ g.length (ofG g) ln hle HLT.out hln16 _ (by rw [matG_ofG Hok.out.1]; exact (HG.out.below hb2).below hb3) (by rw [HLN.out]; exact (HN.out.below hb2).below hb3)).mono ?_; rintro e w4 ⟨u4, rfl, hs4, hb4⟩))
  go_ret
  rw [hlnl.out, hlnE.out] at hs4
  have s2 := hb2.size
  have s3 := hb3.size
  exact ⟨_, _, rfl, .inl ⟨Hok.out.1, Hok.out.2, rfl⟩, sg_base hs4 (by omega), by rw [List.length_map, bagsP_length]; exact hll16, bags_row hle _ _ _, ((hbA.out.trans (hb2.mono h0)).trans (hb3.mono (by omega))).trans (hb4.mono (by omega))⟩

end Go.Proofs.YtlhkhibnbmnjiaaDoor
