/- Walks: slices.Sorted(slices.Values(s)), whole; the program's OrderOk. -/
import Derived.Lib.SlKeysI
import Derived.Test.YtlhkhibnbmnjiaaDoorIter
import Derived.Test.YtlhkhibnbmnjiaaDoorGraphOkI
import Derived.Test.YtlhkhibnbmnjiaaDoorOrdP
namespace Go.Proofs.YtlhkhibnbmnjiaaDoor
open Go.RowKit Go.Sort Go.Shelf

theorem Held.of_nums {w : World} {v : Value} {xs : List Int} (h : Nums w 2 .i64 v xs) : Held w.heap.size w v xs := by
  obtain ⟨p, c, rfl, _, _, _, hat⟩ := id h.shape
  by_cases h0 : 0 < xs.length
  · obtain ⟨b, o, rfl, hc⟩ := hat.num h0
    refine .inr ⟨b, o, c, rfl, World.block_lt_of_cell? w _ hc, fun j hj => ?_⟩
    obtain ⟨_, _, e, hc'⟩ := hat.num hj
    cases e
    exact hc'
  · obtain rfl : xs = [] := List.eq_nil_of_length_eq_zero (by omega)
    exact .inl ⟨rfl, p, c, rfl⟩

theorem values_any (a : Option Addr) (len cap : Nat) (w : World) :
    Calls Tryd.prog 37 #[.slice a len cap] w fun e w' => e = .returned (.func (.func 48) #[] #[.pointer (some ⟨w.heap.size, 0, none⟩)]) ∧ w' = w.alloc (.cells #[.slice a len cap] 25) :=
  (callsIn_wide (n := 5)).1 (values_in 5 a len cap w)
theorem appendSeq_any (Bs : Nat) (sv : Value) (zs : List Int) (hz : zs.length ≤ 1000000000) (w : World) (hBs : Bs < w.heap.size) (hc : w.cell? ⟨Bs, 0, none⟩ = some sv) (hI : Held w.heap.size w sv zs) :
    Calls Tryd.prog 53 #[.slice none 0 0, .func (.func 48) #[] #[.pointer (some ⟨Bs, 0, none⟩)]] w fun e w' => ∃ v, e = .returned v ∧
      w'.ownsRow w.heap.size 2 1 v zs.length (zs.map (Value.int .i64)) ∧ Below w.heap.size w w' :=
  (callsIn_wide (n := 5)).1 (appendSeq_in 5 (by omega) Bs sv zs hz w hBs hc hI)

set_option maxRecDepth 100000 in
theorem collect_any (Bs : Nat) (sv : Value) (zs : List Int) (hz : zs.length ≤ 1000000000) (w : World) (hBs : Bs < w.heap.size) (hc : w.cell? ⟨Bs, 0, none⟩ = some sv) (hI : Held w.heap.size w sv zs) :
    Calls Tryd.prog 46 #[.func (.func 48) #[] #[.pointer (some ⟨Bs, 0, none⟩)]] w fun e w' => ∃ v, e = .returned v ∧
      w'.ownsRow w.heap.size 2 1 v zs.length (zs.map (Value.int .i64)) ∧ Below w.heap.size w w' := by
  have C := Lib.hid (appendSeq_any Bs sv zs hz w hBs hc hI)
  clear hc hI
  go_enter Tryd.func46, Tryd.ntmps46
  go_wp2_with (go_at_call 53; refine C.out.mono ?_; rintro e w2 ⟨v, rfl, hown, hb⟩)
  go_ret
  exact ⟨_, rfl, hown, hb⟩

theorem sort_any (blk off cap : Nat) (zs : List Int) (w : World) (hH : Holds (Value.int .i64) w blk off zs.toArray) (hblk : blk < w.heap.size) (hsz : zs.length < 4611686018427387904) :
    Calls Tryd.prog 47 #[.slice (some ⟨blk, off, none⟩) zs.length cap] w fun e w' =>
      e = .returned (.tuple #[]) ∧ ∃ n os, w' = grow (putRow (Value.int .i64) (Sort.ahead w n) blk off (zs.mergeSort fun x y => decide (x ≤ y)).toArray) os :=
  AnyM.slices_Sort_int sortA blk off cap zs w hH hblk hsz
theorem sort_none (p : Option Addr) (cap : Nat) (w : World) :
    Calls Tryd.prog 47 #[.slice p 0 cap] w fun e w' => e = .returned (.tuple #[]) ∧ w' = w :=
  AnyM.slices_Sort_int_none sortA p cap w

set_option maxRecDepth 100000 in
theorem sorted_any (Bs : Nat) (sv : Value) (zs : List Int) (hz : zs.length ≤ 1000000000) (w : World) (hBs : Bs < w.heap.size) (hc : w.cell? ⟨Bs, 0, none⟩ = some sv) (hI : Held w.heap.size w sv zs) :
    Calls Tryd.prog 36 #[.func (.func 48) #[] #[.pointer (some ⟨Bs, 0, none⟩)]] w fun e w' => ∃ v, e = .returned v ∧
      w'.ownsRow w.heap.size 2 1 v zs.length ((zs.mergeSort fun x y => decide (x ≤ y)).map (Value.int .i64)) ∧ Below w.heap.size w w' := by
  have C := Lib.hid (collect_any Bs sv zs hz w hBs hc hI)
  clear hc hI
  go_enter Tryd.func36, Tryd.ntmps36
  go_upto_region 2 with (go_at_call 46; refine C.out.mono ?_; rintro e w2 ⟨v, rfl, hown, hb⟩)
  rcases hown.2 with ⟨rfl, hz0⟩ | ⟨gb, cap, cur, rfl, hbase, hgb, r1, r2, r3, r4⟩
  · obtain rfl := List.eq_nil_of_length_eq_zero hz0
    have Hown := Lib.hid hown
    clear hown
    go_wp2_with (go_at_call 47; refine (sort_none none 0 _).mono ?_; rintro e w3 ⟨rfl, rfl⟩)
    go_ret
    exact ⟨_, rfl, by simpa using Hown.out, hb⟩
  · have hH : Hid (Holds (Value.int .i64) w2 gb 0 zs.toArray) := Lib.hid (holds_of_block_i hgb (by simpa using r4))
    have hgl : gb < w2.heap.size := (Array.getElem?_eq_some_iff.1 hgb).1
    have Hgb := Lib.hid hgb
    have R3 := Lib.hid r3
    clear hown hgb r4 r3
    go_wp2_with (go_at_call 47; refine (sort_any gb 0 cap zs _ hH.out hgl (by omega)).mono ?_; rintro e w3 ⟨rfl, nn, os, hw3⟩)
    go_ret
    subst hw3
    exact ⟨_, rfl, ownsRow_sorted_i (by simp) hbase Hgb.out r1 r2 R3.out, hb.grown (grownBy_sorted_i _) hb.size (fun j hj => by cases hj; exact hbase)⟩

end Go.Proofs.YtlhkhibnbmnjiaaDoor
