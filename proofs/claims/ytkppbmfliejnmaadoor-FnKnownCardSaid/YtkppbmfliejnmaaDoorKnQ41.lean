/- Walks: slices.Sorted(slices.Values(s)), whole; the program's OrderOk. -/
import Derived.Lib.SlKeysI
import Derived.Test.YtkppbmfliejnmaaDoorKnQ40
import Derived.Test.YtkppbmfliejnmaaDoorKnQ6
import Derived.Test.YtkppbmfliejnmaaDoorKnQ10
import Derived.Test.YtkppbmfliejnmaaDoorKnQ35
import Derived.Test.YtkppbmfliejnmaaDoorKnQ16
import Derived.Test.YtkppbmfliejnmaaDoorKnQ32
namespace Go.Proofs.YtkppbmfliejnmaaDoor
open Go.RowKit Go.Sort Go.Shelf

theorem Held.of_nums {w : World} {v : Value} {xs : List Int} (h : Nums w 2 .i64 v xs) : Held w.heap.size w v xs := by
  obtain ⟨p, c, rfl, _, _, _, hat⟩ := id h.shape
  by_cases h0 : 0 < xs.length
  · obtain ⟨b, o, rfl, hc⟩ := hat.num h0
    refine .inr ⟨b, o, c, rfl, World.block_lt_of_cell? w _ hc, fun j hj => ?_⟩
    obtain ⟨_, _, e, hc'⟩ := hat.num hj
    cases e
    exact hc'
  · obtain rfl : xs = [] := List.eq_nil_of_length_eq_zero (by omega)
    exact .inl ⟨rfl, p, c, rfl⟩

theorem values_any (a : Option Addr) (len cap : Nat) (w : World) :
    Calls Tryd.prog 193 #[.slice a len cap] w fun e w' => e = .returned (.func (.func 235) #[] #[.pointer (some ⟨w.heap.size, 0, none⟩)]) ∧ w' = w.alloc (.cells #[.slice a len cap] 33) :=
  (callsIn_wide (n := 5)).1 (values_in 5 a len cap w)
theorem appendSeq_any (Bs : Nat) (sv : Value) (zs : List Int) (hz : zs.length ≤ 1000000000) (w : World) (hBs : Bs < w.heap.size) (hc : w.cell? ⟨Bs, 0, none⟩ = some sv) (hI : Held w.heap.size w sv zs) :
    Calls Tryd.prog 253 #[.slice none 0 0, .func (.func 235) #[] #[.pointer (some ⟨Bs, 0, none⟩)]] w fun e w' => ∃ v, e = .returned v ∧
      w'.ownsRow w.heap.size 2 1 v zs.length (zs.map (Value.int .i64)) ∧ Below w.heap.size w w' :=
  (callsIn_wide (n := 5)).1 (appendSeq_in 5 (by omega) Bs sv zs hz w hBs hc hI)

set_option maxRecDepth 100000 in
theorem collect_any (Bs : Nat) (sv : Value) (zs : List Int) (hz : zs.length ≤ 1000000000) (w : World) (hBs : Bs < w.heap.size) (hc : w.cell? ⟨Bs, 0, none⟩ = some sv) (hI : Held w.heap.size w sv zs) :
    Calls Tryd.prog 234 #[.func (.func 235) #[] #[.pointer (some ⟨Bs, 0, none⟩)]] w fun e w' => ∃ v, e = .returned v ∧
      w'.ownsRow w.heap.size 2 1 v zs.length (zs.map (Value.int .i64)) ∧ Below w.heap.size w w' := by
  have C := Lib.hid (appendSeq_any Bs sv zs hz w hBs hc hI)
  clear hc hI
  go_enter Tryd.func234, Tryd.ntmps234
  go_wp2_with (go_at_call 253; refine C.out.mono ?_; rintro e w2 ⟨v, rfl, hown, hb⟩)
  go_ret
  exact ⟨_, rfl, hown, hb⟩

theorem sort_any (blk off cap : Nat) (zs : List Int) (w : World) (hH : Holds (Value.int .i64) w blk off zs.toArray) (hblk : blk < w.heap.size) (hsz : zs.length < 4611686018427387904) :
    Calls Tryd.prog 159 #[.slice (some ⟨blk, off, none⟩) zs.length cap] w fun e w' =>
      e = .returned (.tuple #[]) ∧ ∃ n os, w' = grow (putRow (Value.int .i64) (Sort.ahead w n) blk off (zs.mergeSort fun x y => decide (x ≤ y)).toArray) os :=
  AnyM.slices_Sort_int sortA blk off cap zs w hH hblk hsz
theorem sort_none (p : Option Addr) (cap : Nat) (w : World) :
    Calls Tryd.prog 159 #[.slice p 0 cap] w fun e w' => e = .returned (.tuple #[]) ∧ w' = w :=
  AnyM.slices_Sort_int_none sortA p cap w

set_option maxRecDepth 100000 in
theorem sorted_any (Bs : Nat) (sv : Value) (zs : List Int) (hz : zs.length ≤ 1000000000) (w : World) (hBs : Bs < w.heap.size) (hc : w.cell? ⟨Bs, 0, none⟩ = some sv) (hI : Held w.heap.size w sv zs) :
    Calls Tryd.prog 192 #[.func (.func 235) #[] #[.pointer (some ⟨Bs, 0, none⟩)]] w fun e w' => ∃ v, e = .returned v ∧
      w'.ownsRow w.heap.size 2 1 v zs.length ((zs.mergeSort fun x y => decide (x ≤ y)).map (Value.int .i64)) ∧ Below w.heap.size w w' := by
  have C := Lib.hid (collect_any Bs sv zs hz w hBs hc hI)
  clear hc hI
  go_enter Tryd.func192, Tryd.ntmps192
  go_upto_region 2 with (go_at_call 234; refine C.out.mono ?_; rintro e w2 ⟨v, rfl, hown, hb⟩)
  rcases hown.2 with ⟨rfl, hz0⟩ | ⟨gb, cap, cur, rfl, hbase, hgb, r1, r2, r3, r4⟩
  · obtain rfl := List.eq_nil_of_length_eq_zero hz0
    have Hown := Lib.hid hown
    clear hown
    go_wp2_with (go_at_call 159; refine (sort_none none 0 _).mono ?_; rintro e w3 ⟨rfl, rfl⟩)
    go_ret
    exact ⟨_, rfl, by simpa using Hown.out, hb⟩
  · have hH : Hid (Holds (Value.int .i64) w2 gb 0 zs.toArray) := Lib.hid (holds_of_block_i hgb (by simpa using r4))
    have hgl : gb < w2.heap.size := (Array.getElem?_eq_some_iff.1 hgb).1
    have Hgb := Lib.hid hgb
    have R3 := Lib.hid r3
    clear hown hgb r4 r3
    go_wp2_with (go_at_call 159; refine (sort_any gb 0 cap zs _ hH.out hgl (by omega)).mono ?_; rintro e w3 ⟨rfl, nn, os, hw3⟩)
    go_ret
    subst hw3
    exact ⟨_, rfl, ownsRow_sorted_i (by simp) hbase Hgb.out r1 r2 R3.out, hb.grown (grownBy_sorted_i _) hb.size (fun j hj => by cases hj; exact hbase)⟩

end Go.Proofs.YtkppbmfliejnmaaDoor

/- Walks: the program's graph of some edges; its degrees. -/
namespace Go.Proofs.YtkppbmfliejnmaaDoor
open Go.RowKit Go.Sort Go.Shelf

theorem below_grownE {B : Nat} {w0 w w' : World} {b : Nat} (h : Below B w0 w) (hg : w.grownBy w' (some b)) (hl : B ≤ b) (hB : B ≤ w.heap.size) : Below B w0 w' :=
  ⟨hg.os.trans h.os, hg.tape.trans h.tape, hg.output.trans h.output, Nat.le_trans h.size hg.size, fun k hk => (hg.block k (Nat.lt_of_lt_of_le hk hB) (fun e => by
    have e : k = b := by simpa using e
    omega)).trans (h.block k hk)⟩

set_option maxRecDepth 100000 in
set_option maxHeartbeats 4000000 in
theorem implDegreesP_any (v : Value) (g : List (List Int)) (w : World) (hg : Gr w v g) :
    Calls Tryd.prog 69 #[v] w fun e w' => ∃ u : Value, e = .returned u ∧ ((GOk g ∧ ∃ zs : List Int, zs.length = g.length ∧ zs.Perm (degL g g.length) ∧ (∀ z ∈ zs, 0 ≤ z ∧ z ≤ 16) ∧ w'.ownsRow w.heap.size 2 1 u zs.length (zs.map (Value.int .i64))) ∨ (¬ GOk g ∧ u = .slice none 0 0)) ∧ Below w.heap.size w w' := by
  have hg0 := hg
  obtain ⟨u, rfl, hr⟩ := hg
  obtain ⟨p, c, rfl, _⟩ := hr.shape
  have hbA := Lib.hid (below_alloc w (.cells #[.slice p g.length c] 29))
  have HG := Lib.hid (hg0.below hbA.out)
  have HR := Lib.hid (hr.below hbA.out)
  have BX := Lib.hid (Box.new w (.slice p g.length c) 29)
  have hr0 := Lib.hid hr
  clear hr hg0
  by_cases hok : GOk g
  case neg =>
    have HD := Lib.hid (dec_false hok)
    have HOK := Lib.hid hok
    clear hok
    go_enter Tryd.func69, Tryd.ntmps69
    go_wp2_with (go_at_call 87; refine (implGraphOk_any _ g _ HG.out).mono ?_; rintro e w2 ⟨he, hb2⟩; rw [HD.out] at he; subst he)
    go_ret
    exact ⟨_, rfl, .inr ⟨HOK.out, rfl⟩, hbA.out.trans (hb2.mono hbA.out.size)⟩
  have HD := Lib.hid (dec_true hok)
  have HOK := Lib.hid hok
  have h16 := hok.le
  have g1 := hok.pos
  have HLE : Hid (∀ j, (row g j).length ≤ 16) := Lib.hid (fun j => by
    by_cases hj : j < g.length
    · have := setIn_length (by omega) (hok.sets j hj).1
      omega
    · have : row g j = [] := by simp [row, List.getElem?_eq_none (show g.length ≤ j by omega)]
      rw [this]; exact Nat.zero_le _)
  clear hok
  go_enter Tryd.func69, Tryd.ntmps69
  go_upto_region 3 with (go_at_call 87; refine (implGraphOk_any _ g _ HG.out).mono ?_; rintro e w2 ⟨he, hb2⟩; rw [HD.out] at he; subst he)
  have HB2 := Lib.hid (hbA.out.trans (hb2.mono hbA.out.size))
  have HR2 := Lib.hid ((HR.out.below hb2).below (below_alloc w2 (.cells #[] 2)))
  have cx := ((BX.out.keep hb2).keep (below_alloc w2 (.cells #[] 2))).cell
  have START : Hid ((w2.alloc (.cells #[] 2)).ownsRow w2.heap.size 2 1 (.slice (some ⟨w2.heap.size, 0, none⟩) 0 0) 0 ((degL g 0).map (Value.int .i64))) := Lib.hid (ownsRow_empty w2 2 1)
  have HBA2 := Lib.hid (below_alloc w2 (.cells #[] 2))
  clear hb2
  go_wp2_with fail
  clear cx
  go_loopw [3, 13] (fun ov iv wr => ∃ k : Nat, k ≤ g.length ∧ iv = .int .i64 k ∧ wr.ownsRow w2.heap.size 2 1 ov k ((degL g k).map (Value.int .i64)) ∧ Rws wr 33 2 (.slice p g.length c) g ∧ Below w2.heap.size w2 wr) (fun _ iv _ => g.length - (intOf iv).toNat)
  case atStart => exact ⟨0, Nat.zero_le _, rfl, START.out, HR2.out, HBA2.out⟩
  case round =>
    clear START
    obtain ⟨k, hk, rfl, hown, hrw, hb⟩ := hrel
    have HO := Lib.hid hown
    have HB := Lib.hid hb
    by_cases hlt : k < g.length
    · obtain ⟨rb, ro, rp, rc, rfl, hcr, _⟩ := hrw.get hlt
      replace hcr : wr.cell? _ = some (.slice rp (row g k).length rc) := hcr
      have HRW := Lib.hid (hr0.out.below (HB2.out.trans (hb.mono HB2.out.size)))
      have hl := HLE.out k
      have HS := Lib.hid (degL_succ g k)
      obtain ⟨rl, hrl⟩ : ∃ rl, rl = (row g k).length := ⟨_, rfl⟩
      rw [← hrl] at hcr hl HS
      have hsz := HB.out.size
      clear hrl hown hrw hb
      go_wp2_with (at_builtin; refine wpList_app1s ty_i64 rfl rfl rfl HO.out rfl rfl (by omega) hsz ?_; intro b7 c7 w7 hown7 hg7 _)
      go_roundw
      case rel => exact ⟨k + 1, by omega, by go_num, by rw [HS.out, List.map_append]; exact hown7, hr0.out.below (HB2.out.trans ((below_grown HB.out HO.out hg7 (Nat.le_refl _) hsz).mono HB2.out.size)), below_grown HB.out HO.out hg7 (Nat.le_refl _) hsz⟩
      case measure => simp [intOf]; omega
    · obtain rfl : k = g.length := by omega
      have hdl := degL_length g g.length
      clear hrw hb
      rcases hown.2 with ⟨_, h0⟩ | ⟨gb, cap, cur, rfl, hbase, hgb, r1, r2, r3, r4⟩
      · omega
      have hH : Hid (Holds (Value.int .i64) wr gb 0 (degL g g.length).toArray) := Lib.hid (holds_of_block_i hgb (by rw [hdl]; simpa using r4))
      have hgl : gb < wr.heap.size := (Array.getElem?_eq_some_iff.1 hgb).1
      have SRT : Hid (Calls Tryd.prog 159 #[.slice (some ⟨gb, 0, none⟩) g.length cap] wr fun e w' => e = .returned (.tuple #[]) ∧ w'.ownsRow w2.heap.size 2 1 (.slice (some ⟨gb, 0, none⟩) g.length cap) g.length (((degL g g.length).mergeSort fun x y => decide (x ≤ y)).map (Value.int .i64)) ∧ Below w2.heap.size w2 w') := Lib.hid (by
        have h := sort_any gb 0 cap (degL g g.length) wr hH.out hgl (by rw [hdl]; omega)
        rw [hdl] at h
        refine h.mono ?_
        rintro e w3 ⟨rfl, nn, os, rfl⟩
        have hs := ownsRow_sorted_i (ss := degL g g.length) (ts := (degL g g.length).mergeSort fun x y => decide (x ≤ y)) (n := nn) (os := os) (by simp) hbase hgb (by rw [hdl]; exact r1) r2 r3
        rw [hdl] at hs
        exact ⟨rfl, hs, HB.out.grown (grownBy_sorted_i _) HB.out.size (fun j hj => by cases hj; exact hbase)⟩)
      have HPM := Lib.hid (List.mergeSort_perm (degL g g.length) fun x y => decide (x ≤ y))
      have HDL := Lib.hid hdl
      obtain ⟨zs, hzs⟩ : ∃ zs, zs = (degL g g.length).mergeSort fun x y => decide (x ≤ y) := ⟨_, rfl⟩
      rw [← hzs] at SRT HPM
      have hzl : zs.length = g.length := by rw [HPM.out.length_eq, HDL.out]
      have HZL := Lib.hid hzl
      have HZB : Hid (∀ z ∈ zs, 0 ≤ z ∧ z ≤ 16) := Lib.hid (fun z hz => by
        obtain ⟨v, _, rfl⟩ := List.mem_map.1 (HPM.out.mem_iff.1 hz)
        have := HLE.out v
        omega)
      clear hown hgb r1 r2 r3 r4 hH hgl hdl hzs hzl HO
      go_wp2_with (go_at_call 159; refine SRT.out.mono ?_; rintro e w3 ⟨rfl, ho3, hb3⟩)
      go_ret
      have e0 := HB2.out.size
      exact ⟨_, rfl, .inl ⟨HOK.out, zs, HZL.out, HPM.out, HZB.out, by rw [HZL.out]; exact ownsRow_base ho3 e0⟩, HB2.out.trans (hb3.mono e0)⟩

theorem implDegreesOf_any (v : Value) (g : List (List Int)) (w : World) (hg : Gr w v g) :
    Calls Tryd.prog 69 #[v] w fun e w' => ∃ u : Value, e = .returned u ∧ ((GOk g ∧ ∃ zs : List Int, zs.length = g.length ∧ zs.sum = (degL g g.length).sum ∧ (∀ z ∈ zs, 0 ≤ z ∧ z ≤ 16) ∧ w'.ownsRow w.heap.size 2 1 u zs.length (zs.map (Value.int .i64))) ∨ (¬ GOk g ∧ u = .slice none 0 0)) ∧ Below w.heap.size w w' :=
  (implDegreesP_any v g w hg).mono fun _ _ ⟨u, h1, h2, h3⟩ => ⟨u, h1, h2.imp (fun ⟨a, zs, b1, b2, b3, b4⟩ => ⟨a, zs, b1, perm_sumI b2, b3, b4⟩) id, h3⟩

end Go.Proofs.YtkppbmfliejnmaaDoor
