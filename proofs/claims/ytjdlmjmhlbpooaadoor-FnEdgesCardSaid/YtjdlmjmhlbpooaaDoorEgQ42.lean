/- Walks: the program's graph of some edges; its degrees. -/
import Derived.Test.YtjdlmjmhlbpooaaDoorEgQ41
import Derived.Test.YtjdlmjmhlbpooaaDoorEgQ21
import Derived.Test.YtjdlmjmhlbpooaaDoorEgQ30
namespace Go.Proofs.YtjdlmjmhlbpooaaDoor
open Go.RowKit Go.Sort Go.Shelf

theorem below_grownE {B : Nat} {w0 w w' : World} {b : Nat} (h : Below B w0 w) (hg : w.grownBy w' (some b)) (hl : B ≤ b) (hB : B ≤ w.heap.size) : Below B w0 w' :=
  ⟨hg.os.trans h.os, hg.tape.trans h.tape, hg.output.trans h.output, Nat.le_trans h.size hg.size, fun k hk => (hg.block k (Nat.lt_of_lt_of_le hk hB) (fun e => by
    have e : k = b := by simpa using e
    omega)).trans (h.block k hk)⟩

set_option maxRecDepth 100000 in
set_option maxHeartbeats 4000000 in
theorem implGraphOf_any (ev : Value) (z : Int) (n Be : Nat) (l : List (Nat × Nat)) (hz : z = n) (hn : n ≤ 1000) (hl : ∀ e ∈ l, e.1 < e.2 ∧ e.2 < n) (h120 : l.length ≤ 120) (w : World) (hp : PrsO w Be ev l) (hT : Tab w) :
    Calls Tryd.prog 35 #[.int .i64 z, ev] w fun e w' => ∃ (p : Option Addr) (k c : Nat), e = .returned (.tuple #[.agg #[.slice p k c], .bool (dec (1 ≤ n ∧ n ≤ 16))]) ∧ ((1 ≤ n ∧ n ≤ 16) → k = n ∧ DG w' w.heap.size (.agg #[.slice p k c]) (matG n (memE l))) ∧ Below w.heap.size w w' := by
  subst hz
  obtain ⟨ea, ec, rfl⟩ := hp.shape
  obtain ⟨W0, hW0⟩ : ∃ W0, W0 = w.alloc (.cells #[.slice none 0 0] 29) := ⟨_, rfl⟩
  have hbA : Below w.heap.size w W0 := by rw [hW0]; exact below_alloc _ _
  have HBA := Lib.hid hbA
  have HP := Lib.hid (hp.below hbA)
  have HT := Lib.hid (hT.keep hbA)
  have HX : Hid (Box W0 w.heap.size 29 (.slice none 0 0)) := Lib.hid (by rw [hW0]; exact Box.new _ _ _)
  have HSZ := Lib.hid (show W0.heap.size = w.heap.size + 1 by rw [hW0, size_alloc])
  have HL := Lib.hid hl
  clear hp hT hbA hl
  by_cases hok : 1 ≤ n ∧ n ≤ 16
  case neg =>
    have HD := Lib.hid (dec_false (show ¬ ((1 : Int) ≤ (n : Int) ∧ (n : Int) ≤ 16) from fun h => hok ⟨by omega, by omega⟩))
    have HD2 := Lib.hid (dec_false hok)
    have HN := Lib.hid hok
    clear hok
    go_enter Tryd.func35, Tryd.ntmps35
    go_upto_region 1 with fail
    rw [← hW0]
    clear hW0
    have nc := HX.out.cell
    have nf := HX.out.free
    go_wp2_with (go_at_call 94; refine (inRange_any _ _ _ _).mono ?_; rintro e w2 ⟨he, hw⟩; rw [HD.out] at he; subst he; subst hw)
    refine bodyPost_ret (v := .tuple #[.agg #[.slice none 0 0], .bool false]) (by simp [results, Tryd.results35, go_sem, nc]) rfl ⟨none, 0, 0, by rw [HD2.out], fun h => absurd h HN.out, ?_⟩
    exact HBA.out.setCell (by show w.heap.size ≤ w.heap.size; omega) _
  have HD := Lib.hid (dec_true (show (1 : Int) ≤ (n : Int) ∧ (n : Int) ≤ 16 from ⟨by omega, by omega⟩))
  have HD2 := Lib.hid (dec_true hok)
  have n16 := hok.2
  have n1 := hok.1
  have h120' : ¬ (120 : Int) < (l.length : Int) := by omega
  have HOK := Lib.hid hok
  clear hok
  go_enter Tryd.func35, Tryd.ntmps35
  go_upto_region 1 with fail
  rw [← hW0]
  clear hW0
  have HDI := Lib.hid (fun a b (h : a < b) (h2 : b < n) => dec_true (show SetIn (n : Int) [(a : Int), (b : Int)] from ⟨fun x hx => by
    rcases List.mem_cons.1 hx with rfl | hx
    · omega
    · obtain rfl : x = (b : Int) := by simpa using hx
      omega, by simp; omega⟩))
  go_upto_region 3 with (go_at_call 94; refine (inRange_any _ _ _ _).mono ?_; rintro e w2 ⟨he, hw⟩; rw [HD.out] at he; subst he; subst hw)
  go_upto_region 4 with (at_make; refine wpList_mk ty_nets rfl rfl rfl n rfl rfl (by rfl) (by rfl) (by omega) ?_; intro w4 hown4 hg4)
  obtain ⟨ob, hob⟩ : ∃ ob, ob = W0.heap.size := ⟨_, rfl⟩
  have hb4 := grown_below hg4
  have HB4 := Lib.hid hb4
  have HP4 := Lib.hid (HP.out.below hb4)
  have START : Hid (w4.ownsRow ob 69 1 (.slice (some ⟨ob, 0, none⟩) n n) n ((indN n (memE (l.take 0))).map u32v)) := Lib.hid (by
    rw [List.take_zero, memE_nil, hob]
    simpa [u32v] using hown4)
  have HOB := Lib.hid hob
  rw [← hob]
  clear hb4 hg4 hown4 hob
  go_wp2_with fail
  go_loopw [22] (fun iv wr => ∃ k : Nat, k ≤ l.length ∧ iv = .int .i64 k ∧ wr.ownsRow ob 69 1 (.slice (some ⟨ob, 0, none⟩) n n) n ((indN n (memE (l.take k))).map u32v) ∧ PrsO wr Be (.slice ea l.length ec) l ∧ Below W0.heap.size W0 wr) (fun iv _ => l.length - (intOf iv).toNat)
  case atStart => exact ⟨0, Nat.zero_le _, rfl, START.out, HP4.out, HB4.out⟩
  case round =>
    clear START HP4
    obtain ⟨k, hk, rfl, hown, hpo, hb⟩ := hrel
    have HO := Lib.hid hown
    have HPO := Lib.hid hpo
    have HB := Lib.hid hb
    by_cases hlt : k < l.length
    · obtain ⟨eb, eo, rp, rc, rfl, hce, hne⟩ := hpo.get hlt
      have hab := HL.out _ (List.getElem_mem hlt)
      have hT : l.take (k + 1) = l.take k ++ [l[k]] := take_snoc' l k hlt
      obtain ⟨⟨a, b⟩, he⟩ : ∃ e : Nat × Nat, e = l[k] := ⟨_, rfl⟩
      rw [← he] at hne hab hT
      simp only at hne hab
      have HN := Lib.hid hne
      obtain ⟨rb, ro, rfl, hc0⟩ := hne.get (k := 0) (by simp)
      obtain ⟨_, _, e1, hc1⟩ := hne.get (k := 1) (by simp)
      cases e1
      simp only [List.getElem_cons_zero, List.getElem_cons_succ, Nat.add_zero] at hc0 hc1
      have HSI := Lib.hid (HDI.out a b hab.1 hab.2)
      have HNX : Hid (joinL (indN n (memE (l.take k))) a b = indN n (memE (l.take (k + 1)))) := Lib.hid (by rw [hT]; exact memE_snoc (by omega) hab.2 (by omega))
      have HLN := Lib.hid (indN_length n (memE (l.take k)))
      have JN : Hid (∀ wz, wz.ownsRow ob 69 1 (.slice (some ⟨ob, 0, none⟩) n n) n ((indN n (memE (l.take k))).map u32v) → Calls Tryd.prog 67 #[.slice (some ⟨ob, 0, none⟩) n n, .int .i64 (a : Int), .int .i64 (b : Int)] wz fun e w' => e = .returned (.tuple #[]) ∧ w'.ownsRow ob 69 1 (.slice (some ⟨ob, 0, none⟩) n n) n ((indN n (memE (l.take (k + 1)))).map u32v) ∧ wz.grownBy w' (some ob)) := Lib.hid (fun wz hz => by
        have h := join_any (.slice (some ⟨ob, 0, none⟩) n n) (a : Int) (b : Int) (indN n (memE (l.take k))) a b ob rfl rfl (by rw [HLN.out]; omega) (by rw [HLN.out]; omega) (by omega) (by rw [HLN.out]; omega) (indN_lt16 n16) wz (by rw [HLN.out]; exact hz)
        rw [HNX.out, HLN.out] at h
        exact h)
      have hln2 : ((2 : Int) != 2) = false := by decide
      have s0 := HB.out.size
      clear hne he hT hown hpo hb
      go_upto_region 9 with (go_at_call 91; refine (increasing_any _ _ (n : Int) (by omega) (by omega) _ HN.out).mono ?_; rintro e w5 ⟨he, hw⟩; rw [HSI.out] at he; subst he; subst hw)
      go_region_law (first | (go_simp; go_at_call 67; refine (JN.out _ (ownsRow_below HO.out (below_dN (Below.refl _ _) 1))).mono ?_; rintro e w8 ⟨rfl, ho8, hg8⟩; have HO8 := Lib.hid ho8; have HG8 := Lib.hid hg8; have HP8 := Lib.hid ((HPO.out.below (below_dN (Below.refl _ _) 1)).otherT (ownsRow_below HO.out (below_dN (Below.refl _ _) 1)) hg8); have HB8 : Hid (Below W0.heap.size W0 w8) := Lib.hid (below_grownE (below_dN HB.out 1) hg8 (by have := HOB.out; omega) s0); clear ho8 hg8))
      all_goals go_wp2
      all_goals go_roundw
      all_goals first
        | exact ⟨k + 1, by omega, by go_num, HO8.out, HP8.out, HB8.out⟩
        | (simp [intOf]; omega)
    · obtain rfl : k = l.length := by omega
      have HO2 : Hid (Sl wr 69 (.slice (some ⟨ob, 0, none⟩) n n) (indN n (memE l)).length ((indN n (memE l)).map u32v)) := Lib.hid (by
        have h := HO.out
        rw [List.take_length] at h
        rw [indN_length]
        exact Sl.of_owns h (by omega))
      have HRO := Lib.hid (rowsOf_indN n16 (memE l))
      have HLT := Lib.hid (indN_lt16 (E := memE l) n16)
      have HLN := Lib.hid (indN_length n (memE l))
      have HML := Lib.hid (matG_length n (memE l))
      clear hown hpo hb
      go_wp2_with (go_at_call 95; refine (graph_any _ (indN n (memE l)) HLT.out (by rw [HLN.out]; omega) _ HO2.out (HT.out.keep HB.out)).mono ?_; rintro e w9 ⟨u9, rfl, hd9, hb9⟩; rw [HRO.out] at hd9; obtain ⟨p9, c9, rfl⟩ := hd9.shape; obtain ⟨nc, nf, nl, nB⟩ := (HX.out.keep HB.out).keep hb9)
      have k1 := HBA.out.size
      have k2 := HB.out.size
      refine bodyPost_ret (v := .tuple #[.agg #[.slice p9 (matG n (memE l)).length c9], .bool true]) (by simp [results, Tryd.results35, go_sem, nc]) rfl ⟨p9, _, c9, by rw [HD2.out], fun _ => ⟨HML.out, (hd9.setBox ⟨nc, nf, nl, nB⟩ _).base (by omega)⟩, ?_⟩
      exact (HBA.out.trans ((HB.out.trans (hb9.mono k2)).mono k1)).setCell (by show w.heap.size ≤ w.heap.size; omega) _

set_option maxRecDepth 100000 in
set_option maxHeartbeats 4000000 in
theorem implDegreesOf_any (v : Value) (g : List (List Int)) (w : World) (hg : Gr w v g) :
    Calls Tryd.prog 36 #[v] w fun e w' => ∃ u : Value, e = .returned u ∧ ((GOk g ∧ ∃ zs : List Int, zs.length = g.length ∧ zs.sum = (degL g g.length).sum ∧ (∀ z ∈ zs, 0 ≤ z ∧ z ≤ 16) ∧ w'.ownsRow w.heap.size 2 1 u zs.length (zs.map (Value.int .i64))) ∨ (¬ GOk g ∧ u = .slice none 0 0)) ∧ Below w.heap.size w w' := by
  have hg0 := hg
  obtain ⟨u, rfl, hr⟩ := hg
  obtain ⟨p, c, rfl, _⟩ := hr.shape
  have hbA := Lib.hid (below_alloc w (.cells #[.slice p g.length c] 29))
  have HG := Lib.hid (hg0.below hbA.out)
  have HR := Lib.hid (hr.below hbA.out)
  have BX := Lib.hid (Box.new w (.slice p g.length c) 29)
  have hr0 := Lib.hid hr
  clear hr hg0
  by_cases hok : GOk g
  case neg =>
    have HD := Lib.hid (dec_false hok)
    have HOK := Lib.hid hok
    clear hok
    go_enter Tryd.func36, Tryd.ntmps36
    go_wp2_with (go_at_call 32; refine (implGraphOk_any _ g _ HG.out).mono ?_; rintro e w2 ⟨he, hb2⟩; rw [HD.out] at he; subst he)
    go_ret
    exact ⟨_, rfl, .inr ⟨HOK.out, rfl⟩, hbA.out.trans (hb2.mono hbA.out.size)⟩
  have HD := Lib.hid (dec_true hok)
  have HOK := Lib.hid hok
  have h16 := hok.le
  have g1 := hok.pos
  have HLE : Hid (∀ j, (row g j).length ≤ 16) := Lib.hid (fun j => by
    by_cases hj : j < g.length
    · have := setIn_length (by omega) (hok.sets j hj).1
      omega
    · have : row g j = [] := by simp [row, List.getElem?_eq_none (show g.length ≤ j by omega)]
      rw [this]; exact Nat.zero_le _)
  clear hok
  go_enter Tryd.func36, Tryd.ntmps36
  go_upto_region 3 with (go_at_call 32; refine (implGraphOk_any _ g _ HG.out).mono ?_; rintro e w2 ⟨he, hb2⟩; rw [HD.out] at he; subst he)
  have HB2 := Lib.hid (hbA.out.trans (hb2.mono hbA.out.size))
  have HR2 := Lib.hid ((HR.out.below hb2).below (below_alloc w2 (.cells #[] 2)))
  have cx := ((BX.out.keep hb2).keep (below_alloc w2 (.cells #[] 2))).cell
  have START : Hid ((w2.alloc (.cells #[] 2)).ownsRow w2.heap.size 2 1 (.slice (some ⟨w2.heap.size, 0, none⟩) 0 0) 0 ((degL g 0).map (Value.int .i64))) := Lib.hid (ownsRow_empty w2 2 1)
  have HBA2 := Lib.hid (below_alloc w2 (.cells #[] 2))
  clear hb2
  go_wp2_with fail
  clear cx
  go_loopw [3, 13] (fun ov iv wr => ∃ k : Nat, k ≤ g.length ∧ iv = .int .i64 k ∧ wr.ownsRow w2.heap.size 2 1 ov k ((degL g k).map (Value.int .i64)) ∧ Rws wr 26 2 (.slice p g.length c) g ∧ Below w2.heap.size w2 wr) (fun _ iv _ => g.length - (intOf iv).toNat)
  case atStart => exact ⟨0, Nat.zero_le _, rfl, START.out, HR2.out, HBA2.out⟩
  case round =>
    clear START
    obtain ⟨k, hk, rfl, hown, hrw, hb⟩ := hrel
    have HO := Lib.hid hown
    have HB := Lib.hid hb
    by_cases hlt : k < g.length
    · obtain ⟨rb, ro, rp, rc, rfl, hcr, _⟩ := hrw.get hlt
      replace hcr : wr.cell? _ = some (.slice rp (row g k).length rc) := hcr
      have HRW := Lib.hid (hr0.out.below (HB2.out.trans (hb.mono HB2.out.size)))
      have hl := HLE.out k
      have HS := Lib.hid (degL_succ g k)
      obtain ⟨rl, hrl⟩ : ∃ rl, rl = (row g k).length := ⟨_, rfl⟩
      rw [← hrl] at hcr hl HS
      have hsz := HB.out.size
      clear hrl hown hrw hb
      go_wp2_with (at_builtin; refine wpList_app1s ty_i64 rfl rfl rfl HO.out rfl rfl (by omega) hsz ?_; intro b7 c7 w7 hown7 hg7 _)
      go_roundw
      case rel => exact ⟨k + 1, by omega, by go_num, by rw [HS.out, List.map_append]; exact hown7, hr0.out.below (HB2.out.trans ((below_grown HB.out HO.out hg7 (Nat.le_refl _) hsz).mono HB2.out.size)), below_grown HB.out HO.out hg7 (Nat.le_refl _) hsz⟩
      case measure => simp [intOf]; omega
    · obtain rfl : k = g.length := by omega
      have hdl := degL_length g g.length
      clear hrw hb
      rcases hown.2 with ⟨_, h0⟩ | ⟨gb, cap, cur, rfl, hbase, hgb, r1, r2, r3, r4⟩
      · omega
      have hH : Hid (Holds (Value.int .i64) wr gb 0 (degL g g.length).toArray) := Lib.hid (holds_of_block_i hgb (by rw [hdl]; simpa using r4))
      have hgl : gb < wr.heap.size := (Array.getElem?_eq_some_iff.1 hgb).1
      have SRT : Hid (Calls Tryd.prog 96 #[.slice (some ⟨gb, 0, none⟩) g.length cap] wr fun e w' => e = .returned (.tuple #[]) ∧ w'.ownsRow w2.heap.size 2 1 (.slice (some ⟨gb, 0, none⟩) g.length cap) g.length (((degL g g.length).mergeSort fun x y => decide (x ≤ y)).map (Value.int .i64)) ∧ Below w2.heap.size w2 w') := Lib.hid (by
        have h := sort_any gb 0 cap (degL g g.length) wr hH.out hgl (by rw [hdl]; omega)
        rw [hdl] at h
        refine h.mono ?_
        rintro e w3 ⟨rfl, nn, os, rfl⟩
        have hs := ownsRow_sorted_i (ss := degL g g.length) (ts := (degL g g.length).mergeSort fun x y => decide (x ≤ y)) (n := nn) (os := os) (by simp) hbase hgb (by rw [hdl]; exact r1) r2 r3
        rw [hdl] at hs
        exact ⟨rfl, hs, HB.out.grown (grownBy_sorted_i _) HB.out.size (fun j hj => by cases hj; exact hbase)⟩)
      have HPM := Lib.hid (List.mergeSort_perm (degL g g.length) fun x y => decide (x ≤ y))
      have HDL := Lib.hid hdl
      obtain ⟨zs, hzs⟩ : ∃ zs, zs = (degL g g.length).mergeSort fun x y => decide (x ≤ y) := ⟨_, rfl⟩
      rw [← hzs] at SRT HPM
      have hzl : zs.length = g.length := by rw [HPM.out.length_eq, HDL.out]
      have HZL := Lib.hid hzl
      have HZB : Hid (∀ z ∈ zs, 0 ≤ z ∧ z ≤ 16) := Lib.hid (fun z hz => by
        obtain ⟨v, _, rfl⟩ := List.mem_map.1 (HPM.out.mem_iff.1 hz)
        have := HLE.out v
        omega)
      clear hown hgb r1 r2 r3 r4 hH hgl hdl hzs hzl HO
      go_wp2_with (go_at_call 96; refine SRT.out.mono ?_; rintro e w3 ⟨rfl, ho3, hb3⟩)
      go_ret
      have e0 := HB2.out.size
      exact ⟨_, rfl, .inl ⟨HOK.out, zs, HZL.out, perm_sumI HPM.out, HZB.out, by rw [HZL.out]; exact ownsRow_base ho3 e0⟩, HB2.out.trans (hb3.mono e0)⟩

end Go.Proofs.YtjdlmjmhlbpooaaDoor
