/- Walk: the reference's contraction of an edge. -/
import Derived.Test.YtmakhapdlkbbnaaDoorMnQ36
import Derived.Test.YtmakhapdlkbbnaaDoorMnQ33
namespace Go.Proofs.YtmakhapdlkbbnaaDoor
open Go.RowKit

/-- The edges, and some more at a. -/
def conI (E : Nat → Nat → Bool) (a : Nat) (T : List Nat) : Nat → Nat → Bool := fun r j => E r j || (r == a && decide (j ∈ T)) || (j == a && decide (r ∈ T))
theorem conI_nil (m : Nat) (E : Nat → Nat → Bool) (a : Nat) : matG m (conI E a []) = matG m E := matG_congr fun r j _ _ => by simp [conI]
theorem conI_link {m : Nat} {E : Nat → Nat → Bool} {a y : Nat} {T : List Nat} (ha : a < m) (hy : y < m) (hay : a ≠ y) : linkL (matG m (conI E a T)) a y = matG m (conI E a (T ++ [y])) := by
  rw [link_matG ha hy hay]
  refine matG_congr fun r j _ _ => ?_
  unfold conI
  rw [Bool.eq_iff_iff]
  simp only [Bool.or_eq_true, Bool.and_eq_true, beq_iff_eq, decide_eq_true_eq, List.mem_append, List.mem_singleton]
  constructor
  · rintro ((((h | h) | h) | h) | h)
    · exact .inl (.inl h)
    · exact .inl (.inr ⟨h.1, .inl h.2⟩)
    · exact .inr ⟨h.1, .inl h.2⟩
    · exact .inl (.inr ⟨h.1, .inr h.2⟩)
    · exact .inr ⟨h.2, .inr h.1⟩
  · rintro ((h | ⟨h1, h2 | h2⟩) | ⟨h1, h2 | h2⟩)
    · exact .inl (.inl (.inl (.inl h)))
    · exact .inl (.inl (.inl (.inr ⟨h1, h2⟩)))
    · exact .inl (.inr ⟨h1, h2⟩)
    · exact .inl (.inl (.inr ⟨h1, h2⟩))
    · exact .inr ⟨h2, h1⟩
theorem conI_all {g : List (List Int)} {a b : Nat} {rn : List Nat} (hr : row g b = natInts rn) : matG g.length (conI (ofG g) a (rn.filter fun x => x != a)) = matG g.length (conE (ofG g) a b) := by
  refine matG_congr fun r j _ _ => ?_
  have hm : ∀ j, decide (j ∈ rn.filter fun x => x != a) = (ofG g b j && j != a) := fun j => by
    rw [Bool.eq_iff_iff]
    simp only [decide_eq_true_eq, List.mem_filter, Bool.and_eq_true, bne_iff_ne, ofG, hr, mem_natInts]
    constructor
    · exact fun h => ⟨⟨j, h.1, rfl⟩, h.2⟩
    · rintro ⟨⟨i, hi, e⟩, h2⟩
      obtain rfl : i = j := by omega
      exact ⟨hi, h2⟩
  unfold conI conE
  rw [hm r, hm j]

set_option maxRecDepth 100000 in
set_option maxHeartbeats 4000000 in
theorem specContracted_yes (v : Value) (g : List (List Int)) (y z : Int) (a b : Nat) (hy : y = a) (hz : z = b) (hok : GOk g) (hab : a < b) (hb : b < g.length) (hE : ofG g a b = true) (w : World) (hg : Gr w v g) :
    Calls Tryd.prog 58 #[v, .int .i64 y, .int .i64 z] w fun e w' => ∃ u, e = .returned (.tuple #[u, .bool true]) ∧ SG w' w.heap.size u (indL (matG g.length (conE (ofG g) a b)) (natInts (restN g.length b))) ∧ Below w.heap.size w w' := by
  subst hy; subst hz
  have hg0 := hg
  obtain ⟨u, rfl, hr⟩ := hg
  obtain ⟨gp, gc, rfl, _⟩ := hr.shape
  obtain ⟨W0, hW0, hbA, SZ0, B0, B1⟩ := two_boxesM w (.slice gp g.length gc) (.slice none 0 0) 29 29
  have HBA := Lib.hid hbA
  have HG := Lib.hid (hg0.below hbA)
  have HX0 := Lib.hid B0
  have HX1 := Lib.hid B1
  have HSZ := Lib.hid SZ0
  have h16 := hok.le
  have ha : a < g.length := by omega
  have HOK := Lib.hid hok
  have HE := Lib.hid hE
  have hmin : Hid (min (a : Int) (b : Int) = (a : Int)) := Lib.hid (by omega)
  have hmax : Hid (max (a : Int) (b : Int) = (b : Int)) := Lib.hid (by omega)
  have hc : GOk (matG g.length (conE (ofG g) a b)) := gok_matG hok.pos h16 (conE_sym (ofG_sym hok) a b) (conE_irr (ofG_irr hok) a b)
  have HLT : Hid (∀ x ∈ natInts (restN g.length b), 0 ≤ x ∧ x < (matG g.length (conE (ofG g) a b)).length) := Lib.hid (fun x hx => by
    obtain ⟨i, hi, rfl⟩ := mem_natInts.1 hx
    have := (mem_restN.1 hi).1
    rw [matG_length]
    omega)
  have HSY := Lib.hid (indE_sym hc HLT.out)
  have HRE : Hid ((List.range g.length).filter (fun x => x != b) = restN g.length b) := Lib.hid rfl
  have HRL : Hid ((restN g.length b).length ≤ 16) := Lib.hid (Nat.le_trans (List.length_filter_le _ _) (by rw [List.length_range]; exact h16))
  obtain ⟨hrn1, _, hrn3⟩ := setIn_nats (hok.sets b hb).1
  obtain ⟨rn, hrn⟩ : ∃ rn, rn = (row g b).map Int.toNat := ⟨_, rfl⟩
  rw [← hrn] at hrn1 hrn3
  have HRN := Lib.hid hrn1.symm
  have HRN3 := Lib.hid hrn3
  have hrl : rn.length ≤ 16 := by
    have := setIn_length (by omega) (hok.sets b hb).1
    rw [hrn, List.length_map]
    omega
  have HALL := Lib.hid (conI_all (g := g) (a := a) (b := b) (rn := rn) hrn1.symm)
  clear hr hg0 hok hbA B0 B1 SZ0 hE hc hrn1 hrn3 hrn
  go_enter Tryd.func58, Tryd.ntmps58
  go_upto_region 1 with fail
  rw [← hW0]
  clear hW0
  have c0 := HX0.out.cell
  go_upto_region 5 with (first
    | (go_at_call 39; refine (specEdgeIn_yes _ g _ _ a b rfl rfl HOK.out ha hb HE.out _ HG.out).mono ?_; rintro e w2 ⟨rfl, hb2⟩; have c2 := hb2.at' c0)
    | (go_at_call 148; refine (minMn_any _ _ _).mono ?_; rintro e w3 ⟨he, hw⟩; rw [hmin.out] at he; subst he; subst hw)
    | (go_at_call 149; refine (maxMn_any _ _ _).mono ?_; rintro e w3 ⟨he, hw⟩; rw [hmax.out] at he; subst he; subst hw))
  have HB2 := Lib.hid hb2
  have HG2 := Lib.hid (HG.out.below hb2)
  clear hb2 c0
  go_upto_region 6 with (go_at_call 150; refine (l1CopyGraph_any _ g (by omega) (fun j => by have := gok_rowsMn HOK.out j; omega) _ HG2.out).mono ?_; rintro e w3 ⟨u3, rfl, hs3, hb3⟩; obtain ⟨p, c, rfl⟩ := hs3.shape)
  have START : Hid (L2I w2 (w3.alloc (.cells #[.slice p g.length c] 29)) w3.heap.size p c g.length (matG g.length (conI (ofG g) a []))) := Lib.hid
    ⟨by rw [conI_nil, matG_ofG HOK.out]; exact hs3.below (below_alloc _ _), hb3.alloc hb3.size _, Box.new _ _ _, hs3.lt, hb3.size⟩
  have s2 := HB2.out.size
  clear hs3 hb3 c2
  go_wp2_with fail
  go_loopw [11] (fun iv wr => ∃ k : Nat, k ≤ rn.length ∧ iv = .int .i64 k ∧ L2I w2 wr w3.heap.size p c g.length (matG g.length (conI (ofG g) a ((rn.take k).filter fun x => x != a)))) (fun iv _ => rn.length - (intOf iv).toNat)
  case atStart => exact ⟨0, Nat.zero_le _, rfl, START.out⟩
  case round =>
    clear START
    obtain ⟨k, hk, rfl, hI⟩ := hrel
    have HI := Lib.hid hI
    have c0 := (HX0.out.keep (HB2.out.trans (hI.bel.mono HB2.out.size))).cell
    obtain ⟨_, eG, hRg⟩ := id (HG2.out.below hI.bel)
    cases eG
    obtain ⟨rb, ro, rp, rc, hgp, hcr, hnr⟩ := hRg.get hb
    subst hgp
    replace hcr : wr.cell? _ = some (.slice rp (row g b).length rc) := hcr
    replace hnr : Nums wr _ _ (.slice rp (row g b).length rc) (row g b) := hnr
    rw [HRN.out, natInts_length] at hcr hnr
    clear hRg hI
    by_cases hlt : k < rn.length
    · obtain ⟨nb, no, hnp, hcn⟩ := Nums.get (k := k) (by rw [← natInts_length rn] at hnr; exact hnr) (by rw [natInts_length]; exact hlt)
      subst hnp
      have e1 : (natInts rn)[k]'(by rw [natInts_length]; exact hlt) = ((rn[k] : Nat) : Int) := by simp [natInts]
      rw [e1] at hcn
      have hyn := HRN3.out _ (List.getElem_mem hlt)
      have hT : rn.take (k + 1) = rn.take k ++ [rn[k]] := take_snoc' rn k hlt
      generalize rn[k] = y at hcn hT hyn
      have HTT := Lib.hid hT
      have e2 : (b : Int) < (g.length : Int) := by omega
      have e3 : (k : Int) < (rn.length : Int) := by omega
      clear e1 hT hnr
      by_cases hya : y = a
      · have hne : ((y : Int) != (a : Int)) = false := by rw [hya]; simp
        have HK : Hid ((rn.take (k + 1)).filter (fun x => x != a) = (rn.take k).filter (fun x => x != a)) := Lib.hid (by rw [HTT.out, List.filter_append]; simp [hya])
        clear hya
        go_wp2_with fail
        go_roundw
        case rel => exact ⟨k + 1, by omega, by go_num, by rw [HK.out]; exact HI.out⟩
        case measure => simp [intOf]; omega
      · have hne : ((y : Int) != (a : Int)) = true := bne_iff_ne.2 (by omega)
        have HK : Hid ((rn.take (k + 1)).filter (fun x => x != a) = (rn.take k).filter (fun x => x != a) ++ [y]) := Lib.hid (by rw [HTT.out, List.filter_append]; simp [hya])
        obtain ⟨T, hT⟩ : ∃ T, T = (rn.take k).filter (fun x => x != a) := ⟨_, rfl⟩
        rw [← hT] at HI HK
        have hlk : ∀ wz, Below wr.heap.size wr wz → Calls Tryd.prog 151 #[.agg #[.slice p g.length c], .int .i64 (a : Int), .int .i64 (y : Int)] wz fun e w' => e = .returned (.agg #[.slice p g.length c]) ∧ SG w' w2.heap.size (.agg #[.slice p g.length c]) (matG g.length (conI (ofG g) a (T ++ [y]))) ∧ wz.grownBy w' (Value.slice p g.length c).ownBlock := by
          intro wz hbz
          have hml := matG_length g.length (conI (ofG g) a T)
          have := l1Link_any p c (matG g.length (conI (ofG g) a T)) (a : Int) (y : Int) a y w2.heap.size rfl rfl (by omega) (by omega) (fun j _ => Nat.le_trans (matG_row_le j) (by omega)) wz (by rw [hml]; exact (HI.out.next hbz).sg)
          rw [hml, conI_link ha hyn (Ne.symm hya)] at this
          exact this
        have Hlk := Lib.hid hlk
        have cb := HI.out.box.cell
        have cf := HI.out.box.free
        clear hlk hT hya
        go_upto_region 10 with fail
        go_region_law (first | (go_simp; go_at_call 151; refine (Hlk.out _ (below_dN (Below.refl _ _) 1)).mono ?_; rintro e w6 ⟨rfl, hs6, hg6⟩; have HIN := Lib.hid (HI.out.next (below_dN (Below.refl _ _) 1)); have hbx := HIN.out.box.grown hg6 (fun e => by have := (HI.out.own _ e.symm).2; omega); have hc6 := hbx.cell; have hf6 := hbx.free; have HLN := Lib.hid (HIN.out.link hs6 hg6)))
        all_goals go_wp2
        all_goals go_roundw
        all_goals first
          | exact ⟨k + 1, by omega, by go_num, by rw [HK.out]; exact HLN.out⟩
          | exact ⟨k + 1, by omega, by go_num, by rw [HK.out]; exact HLN.out.next (below_dN (Below.refl _ _) _)⟩
          | (simp [intOf]; omega)
    · obtain rfl : k = rn.length := by omega
      rw [List.take_length, HALL.out] at HI
      have cb := HI.out.box.cell
      have HBW := Lib.hid (HB2.out.trans (HI.out.bel.mono HB2.out.size))
      have HGr := Lib.hid (HG2.out.below HI.out.bel)
      obtain ⟨nc, nf, nl, nB⟩ := HX1.out.keep HBW.out
      have szw := HBW.out.size
      have hne : w.heap.size ≠ w3.heap.size := by have := HI.out.b5; have := HSZ.out; omega
      have hne2 : w.heap.size + 1 ≠ w3.heap.size := by have := HI.out.b5; have := HSZ.out; omega
      have hne3 : w.heap.size + 1 ≠ w.heap.size := by omega
      have hne4 : w3.heap.size ≠ w.heap.size + 1 := by omega
      clear hnr
      go_wp2_with fail
      clear hcr
      go_region_held3 (fun W => W.cell? ⟨w3.heap.size, 0, none⟩ = some (.slice p g.length c) ∧ W.cell? ⟨w.heap.size, 0, none⟩ = some (.slice (some ⟨rb, ro, none⟩) g.length gc))
        (first | exact ⟨cb, c0⟩ | go_keep | exact ⟨BWD.at' cb, BWD.at' c0⟩ | exact ⟨BWC.at' cb, BWC.at' c0⟩ | exact ⟨BWB.at' cb, BWB.at' c0⟩ | exact ⟨BWA.at' cb, BWA.at' c0⟩ | exact ⟨(World.cell?_setCell_far _ _ _ _ hne2).trans (BWD.at' cb), (World.cell?_setCell_far _ _ _ _ hne3).trans (BWD.at' c0)⟩)
        (first
          | (go_at_call 87; refine (l1Size_any _ g _ (HGr.out.below (below_dN (Below.refl _ _) 1))).mono ?_; rintro e wa ⟨rfl, hbq⟩; have BWA : Below wr.heap.size wr wa := (below_dN (Below.refl _ _) 1).trans hbq; clear hbq)
          | (go_at_call 100; refine (l1All_any _ g.length rfl (by omega) _).mono ?_; rintro e wb ⟨av, rfl, ho, hbq⟩; have HNA : Hid (Nums wb 2 .i64 av (natInts (List.range g.length))) := Lib.hid (Nums.of_owns ho (by rw [natInts_length, List.length_range]) (by omega)); have BWB : Below wr.heap.size wr wb := BWA.trans (hbq.mono BWA.size); clear hbq ho)
          | (go_at_call 147; refine (l2Without_any _ (List.range g.length) _ b rfl (by rw [List.length_range]; omega) _ HNA.out).mono ?_; rintro e wc ⟨lv, rfl, ho, hbq⟩; rw [HRE.out] at ho; have HNL : Hid (Nums wc 2 .i64 lv (natInts (restN g.length b))) := Lib.hid (Nums.of_owns ho (by rw [natInts_length]) (by have := HRL.out; omega)); have BWC : Below wr.heap.size wr wc := BWB.trans (hbq.mono BWB.size); clear hbq ho)
          | (go_at_call 146; refine (l2Of_any _ _ (matG g.length (conE (ofG g) a b)) (natInts (restN g.length b)) HLT.out (by rw [natInts_length]; have := HRL.out; omega) HSY.out _ ((HI.out.next BWC).sg.gr (by rw [matG_length]; omega)) HNL.out).mono ?_; rintro e wd ⟨u, rfl, hs, hbq⟩; obtain ⟨up, uc, rfl⟩ := hs.shape; have HSD := Lib.hid hs; have BWD : Below wr.heap.size wr wd := BWC.trans (hbq.mono BWC.size); have nc4 := BWD.at' nc; have nB4 := (Box.keep ⟨nc, nf, nl, nB⟩ BWD); have nf4 := nB4.free; clear hbq hs))
      all_goals go_wp2
      have e0 := HBA.out.size
      refine bodyPost_ret (v := .tuple #[.agg #[.slice up (indL (matG g.length (conE (ofG g) a b)) (natInts (restN g.length b))).length uc], .bool true]) (by simp [results, Tryd.results58, go_sem, nc4]) rfl ⟨_, rfl, (HSD.out.setBox nB4 _).base (by have := BWC.size; omega), ?_⟩
      exact ((HBA.out.trans (HBW.out.mono e0)).trans (BWD.mono (by omega))).setCell (by show w.heap.size ≤ w.heap.size + 1; omega) _

end Go.Proofs.YtmakhapdlkbbnaaDoor

/- Walks: how the program tells a model. -/
namespace Go.Proofs.YtmakhapdlkbbnaaDoor
open Go.RowKit

/-- What the closure reads: the graph's sets of neighbours, and the model's sets. -/
structure MdB (w : World) (g M : List (List Int)) (bn bs : Nat) (xp sp : Option Addr) (xc sc : Nat) : Prop where
  boxN : Box w bn 76 (.slice xp g.length xc)
  ne : NE w (.slice xp g.length xc) g.length (ofG g)
  boxS : Box w bs 75 (.slice sp M.length sc)
  sl : Sl w 79 (.slice sp M.length sc) M.length ((M.map mask).map u32v)
  tab : Tab w
  ok : GOk g
  sets : ∀ a, a < M.length → SetIn g.length (row M a)
section
variable {w w' : World} {g M : List (List Int)} {bn bs : Nat} {xp sp : Option Addr} {xc sc : Nat}
theorem MdB.next (h : MdB w g M bn bs xp sp xc sc) (hb : Below w.heap.size w w') : MdB w' g M bn bs xp sp xc sc :=
  ⟨h.boxN.keep hb, h.ne.next hb, h.boxS.keep hb, h.sl.below hb, h.tab.keep hb, h.ok, h.sets⟩
theorem set_mask {n : Nat} {s : List Int} (hn : n ≤ 16) (h : SetIn n s) : mask s < 65536 ∧ ∀ i, (mask s).testBit i = true → i < n := by
  have k := bit_mask fun x hx => (h.1 x hx).1
  refine ⟨mask_lt16 _ fun x hx => by have := (h.1 x hx).2; omega, fun i hi => ?_⟩
  have := h.1 _ ((k i).1 hi)
  omega
theorem MdB.get (h : MdB w g M bn bs xp sp xc sc) {a : Nat} (ha : a < M.length) : ∃ qb qo, sp = some ⟨qb, qo, none⟩ ∧ w.cell? ⟨qb, qo + a, none⟩ = some (.int .u32 (mask (row M a) : Nat)) := by
  have hl2 : (M.map mask).length = M.length := List.length_map ..
  have hsl := h.sl
  rw [← hl2] at hsl
  obtain ⟨qb, qo, e, hq⟩ := nets_cell hsl (v := a) (by rw [hl2]; exact ha)
  have e1 : (M.map mask)[a]'(by rw [hl2]; exact ha) = mask (row M a) := by simp [row, ha]
  rw [e1] at hq
  exact ⟨qb, qo, e, hq⟩
end

set_option maxRecDepth 100000 in
set_option maxHeartbeats 2000000 in
theorem mdE_any (ev : Value) (a b : Nat) (g M : List (List Int)) (bn bs : Nat) (xp sp : Option Addr) (xc sc : Nat) (ha : a < M.length) (hb : b < M.length) (w : World) (hn : Nums w 2 .i64 ev [(a : Int), (b : Int)]) (hB : MdB w g M bn bs xp sp xc sc) :
    Calls Tryd.prog 145 #[ev, .pointer (some ⟨bn, 0, none⟩), .pointer (some ⟨bs, 0, none⟩)] w fun e w' => e = .returned (.bool (!dec (JoinP g (row M a) (row M b)))) ∧ Below w.heap.size w w' := by
  obtain ⟨rp, rc, rfl, _⟩ := id hn.shape
  obtain ⟨rb, ro, rfl, hc0⟩ := hn.get (k := 0) (by simp)
  obtain ⟨_, _, e1, hc1⟩ := hn.get (k := 1) (by simp)
  cases e1
  simp only [List.getElem_cons_zero, List.getElem_cons_succ, Nat.add_zero] at hc0 hc1
  have hcn := hB.boxN.cell
  have hcs := hB.boxS.cell
  obtain ⟨qb, qo, rfl, hca⟩ := hB.get ha
  obtain ⟨_, _, e2, hcb⟩ := hB.get hb
  cases e2
  have h16 := hB.ok.le
  have hA16 := set_mask h16 (hB.sets a ha)
  have hB16 := set_mask h16 (hB.sets b hb)
  have HD : Hid (dec (JnM (ofG g) (mask (row M a)) (mask (row M b))) = dec (JoinP g (row M a) (row M b))) := Lib.hid (dec_congr (joinM_iff hB.ok (hB.sets a ha) (hB.sets b hb)))
  obtain ⟨ma, hma⟩ : ∃ ma, ma = mask (row M a) := ⟨_, rfl⟩
  obtain ⟨mb, hmb⟩ : ∃ mb, mb = mask (row M b) := ⟨_, rfl⟩
  rw [← hma] at hca hA16 HD
  rw [← hmb] at hcb hB16 HD
  have HA := Lib.hid hA16
  have HBB := Lib.hid hB16
  have HNE := Lib.hid hB.ne
  have HT := Lib.hid hB.tab
  clear hn hB hA16 hB16 hma hmb
  go_enter Tryd.func145, Tryd.ntmps145
  go_upto_region 1 with fail
  go_region_held3 (fun w' => w'.cell? ⟨bn, 0, none⟩ = some (.slice xp g.length xc) ∧ w'.cell? ⟨bs, 0, none⟩ = some (.slice (some ⟨qb, qo, none⟩) M.length sc) ∧ w'.cell? ⟨rb, ro, none⟩ = some (.int .i64 a) ∧ w'.cell? ⟨rb, ro + 1, none⟩ = some (.int .i64 b) ∧ w'.cell? ⟨qb, qo + a, none⟩ = some (.int .u32 (ma : Int)) ∧ w'.cell? ⟨qb, qo + b, none⟩ = some (.int .u32 (mb : Int)))
    (first | exact ⟨hcn, hcs, hc0, hc1, hca, hcb⟩ | exact ⟨hb4'.at' hcn, hb4'.at' hcs, hb4'.at' hc0, hb4'.at' hc1, hb4'.at' hca, hb4'.at' hcb⟩ | go_keep)
    (first | (go_at_call 137; refine (areJoined_any _ _ _ g.length (ofG g) ma mb rfl rfl HA.out.1 HBB.out.1 HA.out.2 HBB.out.2 _ (HNE.out.next (below_dN (Below.refl _ _) 1)) (HT.out.keep (below_dN (Below.refl _ _) 1))).mono ?_; rintro e w4 ⟨he4, hb4⟩; rw [HD.out] at he4; subst he4; have hb4' : Below w.heap.size w w4 := (below_dN (Below.refl _ _) 1).trans hb4))
  all_goals go_wp2
  all_goals go_ret
  all_goals exact ⟨rfl, hb4'⟩

set_option maxRecDepth 100000 in
set_option maxHeartbeats 2000000 in
theorem indexMd_any (lv : Value) (base : Nat) (l : List (Nat × Nat)) (g M : List (List Int)) (bn bs : Nat) (xp sp : Option Addr) (xc sc : Nat) (hl : ∀ e ∈ l, e.1 < M.length ∧ e.2 < M.length) (h256 : l.length ≤ 256) (w : World) (hn : PrsO w base lv l) (hB : MdB w g M bn bs xp sp xc sc) :
    Calls Tryd.prog 203 #[lv, .func (.func 145) #[] #[.pointer (some ⟨bn, 0, none⟩), .pointer (some ⟨bs, 0, none⟩)]] w fun e w' =>
      ∃ z : Int, e = .returned (.int .i64 z) ∧ (0 ≤ z ↔ ∃ e ∈ l, ¬ JoinP g (row M e.1) (row M e.2)) ∧ Below w.heap.size w w' := by
  obtain ⟨lp, lc, rfl⟩ := hn.shape
  have HN := Lib.hid hn
  have HB := Lib.hid hB
  have HL := Lib.hid hl
  clear hn hB hl
  go_enter Tryd.func203, Tryd.ntmps203
  go_wp2
  go_loopw [8] (fun i wr => ∃ k : Nat, k ≤ l.length ∧ i = .int .i64 k ∧ Hid (∀ e ∈ l.take k, JoinP g (row M e.1) (row M e.2)) ∧ Below w.heap.size w wr) (fun i _ => l.length - (intOf i).toNat)
  case atStart => exact ⟨0, Nat.zero_le _, rfl, Lib.hid (fun v hv => by simp at hv), Below.refl _ _⟩
  case round =>
    obtain ⟨k, hk, rfl, HNO, hb⟩ := hrel
    have HBW := Lib.hid hb
    by_cases hlt : k < l.length
    · obtain ⟨eb, eo, rp, rc, rfl, hce, hne⟩ := (HN.out.below hb).get hlt
      obtain ⟨⟨a, b⟩, hab⟩ : ∃ e : Nat × Nat, e = l[k] := ⟨_, rfl⟩
      have HMEM := Lib.hid (show (a, b) ∈ l by rw [hab]; exact List.getElem_mem hlt)
      have HTK : Hid (l.take (k + 1) = l.take k ++ [(a, b)]) := Lib.hid (by rw [take_snoc' l k hlt, hab])
      rw [← hab] at hne
      have hin := HL.out _ HMEM.out
      simp only at hne hin
      have HNE := Lib.hid hne
      clear hab hb hne
      by_cases hj : JoinP g (row M a) (row M b)
      · have HJV := Lib.hid hj
        have hd := Lib.hid (dec_true hj)
        clear hj
        go_wp2_with (go_at_call 145; refine (mdE_any _ a b g M bn bs xp sp xc sc hin.1 hin.2 _ HNE.out (HB.out.next HBW.out)).mono ?_; rintro e w2 ⟨he, hb2⟩; rw [hd.out] at he; subst he)
        go_roundw
        case rel => exact ⟨k + 1, by omega, by go_num, Lib.hid (fun x hx => by
          rw [HTK.out] at hx
          rcases List.mem_append.1 hx with h | h
          · exact HNO.out x h
          · obtain rfl : x = (a, b) := by simpa using h
            exact HJV.out), HBW.out.trans (hb2.mono HBW.out.size)⟩
        case measure => simp [intOf]; omega
      · have HJV := Lib.hid hj
        have hd := Lib.hid (dec_false hj)
        clear hj
        go_wp2_with (go_at_call 145; refine (mdE_any _ a b g M bn bs xp sp xc sc hin.1 hin.2 _ HNE.out (HB.out.next HBW.out)).mono ?_; rintro e w2 ⟨he, hb2⟩; rw [hd.out] at he; subst he)
        go_ret
        exact ⟨k, rfl, ⟨fun _ => ⟨(a, b), HMEM.out, HJV.out⟩, fun _ => by omega⟩, HBW.out.trans (hb2.mono HBW.out.size)⟩
    · obtain rfl : k = l.length := by omega
      clear hb
      go_wp2
      go_ret
      exact ⟨-1, rfl, ⟨fun h => by omega, fun ⟨v, h1, h2⟩ => absurd (HNO.out v (by rw [List.take_length]; exact h1)) h2⟩, HBW.out⟩

set_option maxRecDepth 100000 in
set_option maxHeartbeats 1000000 in
theorem containsMd_any (lv : Value) (base : Nat) (l : List (Nat × Nat)) (g M : List (List Int)) (bn bs : Nat) (xp sp : Option Addr) (xc sc : Nat) (hl : ∀ e ∈ l, e.1 < M.length ∧ e.2 < M.length) (h256 : l.length ≤ 256) (w : World) (hn : PrsO w base lv l) (hB : MdB w g M bn bs xp sp xc sc) :
    Calls Tryd.prog 143 #[lv, .func (.func 145) #[] #[.pointer (some ⟨bn, 0, none⟩), .pointer (some ⟨bs, 0, none⟩)]] w fun e w' =>
      e = .returned (.bool (dec (∃ e ∈ l, ¬ JoinP g (row M e.1) (row M e.2)))) ∧ Below w.heap.size w w' := by
  have HN := Lib.hid hn
  have HB := Lib.hid hB
  clear hn hB
  go_enter Tryd.func143, Tryd.ntmps143
  go_wp2_with (go_at_call 203; refine (indexMd_any _ base l g M bn bs xp sp xc sc hl h256 _ HN.out HB.out).mono ?_; rintro e w2 ⟨z, rfl, hz, hb2⟩; have HZ := Lib.hid hz; clear hz)
  go_ret
  exact ⟨ret_bool (decide_dec_iff HZ.out), hb2⟩

end Go.Proofs.YtmakhapdlkbbnaaDoor
