/- Walks: an order by dice, a set by dice. -/
import Derived.Test.YtkppbmfliejnmaaDoorSnQ29
import Derived.Test.YtkppbmfliejnmaaDoorSnQ5
import Derived.Test.YtkppbmfliejnmaaDoorSnQ10
import Derived.Test.YtkppbmfliejnmaaDoorSnQ8
import Derived.Test.YtkppbmfliejnmaaDoorSnQ16
import Derived.Test.YtkppbmfliejnmaaDoorSnQ9
namespace Go.Proofs.YtkppbmfliejnmaaDoor
open Go.RowKit

/-- A row of numbers of one's own, beside the dice. -/
structure DrwI (w0 w wr : World) (db : Nat) (bs : List Int) (ov : Value) (xs : List Int) : Prop where
  dice : Dice w0 wr db bs
  gr : w.grownBy wr (some db)
  own : wr.ownsRow w.heap.size 2 1 ov xs.length (xs.map (Value.int .i64))
  low : db < w.heap.size
section
variable {w0 w wr w' : World} {db : Nat} {bs : List Int} {ov : Value} {xs : List Int}
theorem DrwI.throw (h : DrwI w0 w wr db bs ov xs) (hd : Dice w0 w' db bs) (hg : wr.grownBy w' (some db)) : DrwI w0 w w' db bs ov xs :=
  ⟨hd, grown_trans h.gr hg, ownsRow_diced h.dice hg (by decide) h.own, h.low⟩
theorem DrwI.far (h : DrwI w0 w wr db bs ov xs) {b : Nat} (hb : w.heap.size ≤ b) (hg : wr.grownBy w' (some b)) : Dice w0 w' db bs ∧ w.grownBy w' (some db) := by
  obtain ⟨bv, i, z, q1, q2, q3⟩ := h.dice.ex
  have lo := h.dice.lo
  have low := h.low
  refine ⟨⟨⟨bv, i, z, q1.to (hg.block db q1.lt (fun e => by simp only [Option.some.injEq] at e; omega)), q2, q3⟩, h.dice.few, lo, ?_⟩, ?_⟩
  · exact ⟨hg.os.trans h.dice.bel.os, hg.tape.trans h.dice.bel.tape, hg.output.trans h.dice.bel.output, Nat.le_trans h.dice.bel.size hg.size, fun k hk => (hg.block k (Nat.lt_of_lt_of_le hk h.dice.bel.size) (fun e => by simp only [Option.some.injEq] at e; omega)).trans (h.dice.bel.block k hk)⟩
  · exact ⟨hg.os.trans h.gr.os, hg.tape.trans h.gr.tape, hg.output.trans h.gr.output, Nat.le_trans h.gr.size hg.size, fun k hk hne => (hg.block k (Nat.lt_of_lt_of_le hk h.gr.size) (fun e => by simp only [Option.some.injEq] at e; omega)).trans (h.gr.block k hk hne)⟩
theorem DrwI.app (h : DrwI w0 w wr db bs ov xs) {z : Int} {ov' : Value} (ho : w'.ownsRow w.heap.size 2 1 ov' (xs.length + 1) (xs.map (Value.int .i64) ++ [.int .i64 z])) (hg : wr.grownBy w' ov.ownBlock) : DrwI w0 w w' db bs ov' (xs ++ [z]) := by
  have hne : ∀ k, ov.ownBlock = some k → w.heap.size ≤ k := fun k hk => (h.own.lt k hk).1
  have key : Dice w0 w' db bs ∧ w.grownBy w' (some db) := by
    cases e : ov.ownBlock with
    | some b => exact h.far (hne b e) (by rw [← e]; exact hg)
    | none => exact h.far (b := w.heap.size) (Nat.le_refl _) ⟨hg.os, hg.tape, hg.output, hg.size, fun k hk _ => hg.block k hk (by rw [e]; simp)⟩
  exact ⟨key.1, key.2, by rw [List.length_append, List.map_append]; exact ho, h.low⟩
theorem DrwI.set {b c : Nat} (h : DrwI w0 w wr db bs (.slice (some ⟨b, 0, none⟩) xs.length c) xs) (k : Nat) (z : Int) : DrwI w0 w (wr.setCell ⟨b, k, none⟩ (.int .i64 z)) db bs (.slice (some ⟨b, 0, none⟩) (xs.set k z).length c) (xs.set k z) := by
  have hb := (h.own.lt b rfl).1
  have key := h.far hb (grown_setD wr b k (.int .i64 z))
  refine ⟨key.1, key.2, ?_, h.low⟩
  have := (h.own.stored k (.int .i64 z)).1
  rw [List.length_set, List.map_set]
  exact this
end

/-! ### A number put in -/
theorem ins_get {o : List Nat} {i y : Nat} (h0 : 0 < i) (hi : i ≤ o.length) : (o.take i ++ y :: o.drop i).getD (i - 1) 0 = o.getD (i - 1) 0 := by
  rw [List.getD_eq_getElem?_getD, List.getD_eq_getElem?_getD, List.getElem?_append_left (by rw [List.length_take]; omega), List.getElem?_take]
  rw [if_pos (by omega)]
theorem ins_end {o : List Nat} {k y v : Nat} (hk : k ≤ o.length) : (o.take k ++ y :: o.drop k).set k v = o.take k ++ v :: o.drop k := by
  have h : k = (o.take k).length := by rw [List.length_take]; omega
  rw [List.set_append_right _ _ (by omega)]
  rw [show k - (o.take k).length = 0 by omega]
  rfl
theorem ins_step {o : List Nat} {i y : Nat} (h0 : 0 < i) (hi : i ≤ o.length) : (o.take i ++ y :: o.drop i).set i (o.getD (i - 1) 0) = o.take (i - 1) ++ o.getD (i - 1) 0 :: o.drop (i - 1) := by
  rw [ins_end hi]
  obtain ⟨j, rfl⟩ : ∃ j, i = j + 1 := ⟨i - 1, by omega⟩
  have hj : j < o.length := by omega
  have e : o.getD j 0 = o[j] := by rw [List.getD_eq_getElem?_getD, List.getElem?_eq_getElem hj]; rfl
  rw [show j + 1 - 1 = j by omega, e, List.take_succ_eq_append_getElem hj, List.drop_eq_getElem_cons hj, List.append_assoc]
  rfl
theorem ins_nodup {o : List Nat} {k v : Nat} (h : o.Nodup) (hv : v ∉ o) : (o.take k ++ v :: o.drop k).Nodup := by
  have hp : (o.take k ++ v :: o.drop k).Perm (v :: o) := by
    refine List.perm_middle.trans ?_
    rw [List.take_append_drop]
  exact hp.nodup_iff.2 (List.nodup_cons.2 ⟨hv, h⟩)
theorem ins_mem {o : List Nat} {k v x : Nat} : x ∈ o.take k ++ v :: o.drop k ↔ x = v ∨ x ∈ o := by
  have hp : (o.take k ++ v :: o.drop k).Perm (v :: o) := by
    refine List.perm_middle.trans ?_
    rw [List.take_append_drop]
  rw [hp.mem_iff, List.mem_cons]
theorem natInts_set (l : List Nat) (k v : Nat) : (natInts l).set k (v : Int) = natInts (l.set k v) := by simp [natInts, List.map_set]

set_option maxRecDepth 100000 in
set_option maxHeartbeats 8000000 in
theorem w5Order_any (w0 : World) (db : Nat) (bs : List Int) (n : Nat) (z : Int) (hz : z = n) (hn : n ≤ 1000) (w : World) (hd : Dice w0 w db bs) (hdb : db < w.heap.size) :
    Calls Tryd.prog 36 #[.pointer (some ⟨db, 0, none⟩), .int .i64 z] w fun e w' => ∃ (ov : Value) (o : List Nat), e = .returned ov ∧ o.length = n ∧ o.Nodup ∧ (∀ x ∈ o, x < n) ∧ DrwI w0 w w' db bs ov (natInts o) := by
  subst hz
  have START : Hid (DrwI w0 w (w.alloc (.cells #[] 2)) db bs (.slice (some ⟨w.heap.size, 0, none⟩) 0 0) (natInts [])) := Lib.hid ⟨hd.keep (below_alloc _ _), grown_of_below (below_alloc _ _) _, ownsRow_empty w 2 1, hdb⟩
  clear hd hdb
  go_enter Tryd.func36, Tryd.ntmps36
  go_wp2
  go_loopw [5, 6, 7, 8] (fun ov vv _ _ wr => ∃ (v : Nat) (o : List Nat), v ≤ n ∧ vv = .int .i64 (v : Int) ∧ o.length = v ∧ Hid (o.Nodup ∧ ∀ x ∈ o, x < v) ∧ DrwI w0 w wr db bs ov (natInts o)) (fun _ vv _ _ _ => n - (intOf vv).toNat)
  case atStart => exact ⟨0, [], Nat.zero_le _, rfl, rfl, Lib.hid ⟨by simp, by simp⟩, START.out⟩
  case round =>
    clear START
    obtain ⟨v, o, hv, rfl, hol, HO, hI⟩ := hrel
    have HI := Lib.hid hI
    have HOL := Lib.hid hol
    by_cases hlt : v < n
    · obtain ⟨op, oc, hov⟩ : ∃ p c, u5 = .slice p v c := by
        rcases hI.own.2 with ⟨h1, h0⟩ | ⟨q, cap, cur, h1, _⟩
        · rw [natInts_length, hol] at h0; exact ⟨none, 0, by rw [h1, h0]⟩
        · rw [natInts_length, hol] at h1; exact ⟨_, _, h1⟩
      subst hov
      have hwr1 : IntKind.i64.wrap ((v : Int) + 1) = ((v + 1 : Nat) : Int) := by rw [IntKind.wrap_i64]; omega
      have hvi : (v : Int) < (n : Int) := by omega
      clear hI hol
      go_upto_region 6 with (go_at_call 28; refine (below_any w0 db bs (v + 1) _ rfl (by omega) (by omega) _ HI.out.dice).mono ?_; rintro e w2 ⟨k, rfl, hk, hd2, hg2⟩; have HI2 := Lib.hid (HI.out.throw hd2 hg2); clear hd2 hg2)
      have hown : w2.ownsRow w.heap.size 2 1 (.slice op v oc) v ((natInts o).map (Value.int .i64)) := by
        have := HI2.out.own
        rw [natInts_length, HOL.out] at this
        exact this
      have hlow := HI2.out.gr.size
      go_cut [5] (fun s wx => ∃ (b c : Nat), s = .slice (some ⟨b, 0, none⟩) (v + 1) c ∧ DrwI w0 w wx db bs (.slice (some ⟨b, 0, none⟩) (v + 1) c) (natInts (o.take v ++ 0 :: o.drop v)))
      case first =>
        go_wp2_with (at_builtin; refine wpList_app1s ty_i64 rfl rfl rfl hown rfl rfl (by omega) hlow ?_; intro b7 c7 w7 hown7 hg7 _)
        go_meet
        refine ⟨b7, c7, rfl, ?_⟩
        have hl : (natInts o).length = v := by rw [natInts_length]; exact HOL.out
        have := HI2.out.app (z := 0) (ov' := .slice (some ⟨b7, 0, none⟩) (v + 1) c7) (by rw [hl]; exact hown7) (by rw [show (Value.slice op v oc).ownBlock = (Value.slice op v oc).ownBlock from rfl]; exact hg7)
        rw [show o.take v ++ 0 :: o.drop v = o ++ [0] by rw [List.take_of_length_le (by have := HOL.out; omega), List.drop_of_length_le (by have := HOL.out; omega)]]
        simpa [natInts] using this
      case rest =>
      obtain ⟨b, c, rfl, hI3⟩ := hcut
      have HI3 := Lib.hid hI3
      have hwr2 : IntKind.i64.wrap (((v + 1 : Nat) : Int) - 1) = (v : Int) := by rw [IntKind.wrap_i64]; omega
      clear hI3 hown hlow HI HI2
      go_wp2_with fail
      go_loopw [8] (fun iv wx => ∃ i y : Nat, k ≤ i ∧ i ≤ v ∧ iv = .int .i64 (i : Int) ∧ DrwI w0 w wx db bs (.slice (some ⟨b, 0, none⟩) (v + 1) c) (natInts (o.take i ++ y :: o.drop i))) (fun iv _ => (intOf iv).toNat)
      case atStart => exact ⟨v, 0, by omega, Nat.le_refl _, rfl, HI3.out⟩
      case round =>
        clear HI3
        obtain ⟨i, y, hki, hiv, rfl, hI⟩ := hrel
        have HI := Lib.hid hI
        have HLN : Hid (∀ y : Nat, (natInts (o.take i ++ y :: o.drop i)).length = v + 1) := Lib.hid (fun y => by rw [natInts_length, List.length_append, List.length_cons, List.length_take, List.length_drop, HOL.out]; omega)
        have how := hI.own
        rw [HLN.out] at how
        obtain ⟨q, hq⟩ : ∃ q, wr.cell? ⟨b, i, none⟩ = some q := ⟨_, (how.cellAt i (show i < (v + 1) * 1 by omega)).trans (List.getElem?_eq_getElem (by rw [List.length_map, HLN.out]; omega))⟩
        by_cases hgt : k < i
        · have hgi : (i : Int) > (k : Int) := by omega
          have hwr : IntKind.i64.wrap ((i : Int) - 1) = ((i - 1 : Nat) : Int) := by rw [IntKind.wrap_i64]; omega
          have hcell := how.cellAt (i - 1) (show i - 1 < (v + 1) * 1 by omega)
          have e1 : ((natInts (o.take i ++ y :: o.drop i)).map (Value.int .i64))[i - 1]? = some (.int .i64 ((o.getD (i - 1) 0 : Nat) : Int)) := by
            have h1 := ins_get (y := y) (show 0 < i by omega) (show i ≤ o.length by have := HOL.out; omega)
            have h2 : i - 1 < (o.take i ++ y :: o.drop i).length := by have := HLN.out y; rw [natInts_length] at this; omega
            rw [List.getD_eq_getElem?_getD, List.getElem?_eq_getElem h2] at h1
            simp only [Option.getD_some] at h1
            rw [natInts, List.map_map, List.getElem?_map, List.getElem?_eq_getElem h2, h1]
            rfl
          rw [e1] at hcell
          have hfz := how.frozenAt i
          have HST := Lib.hid (show DrwI w0 w (wr.setCell ⟨b, i, none⟩ (.int .i64 ((o.getD (i - 1) 0 : Nat) : Int))) db bs (.slice (some ⟨b, 0, none⟩) (v + 1) c) (natInts (o.take (i - 1) ++ o.getD (i - 1) 0 :: o.drop (i - 1))) from by
            have h1 : DrwI w0 w wr db bs (.slice (some ⟨b, 0, none⟩) (natInts (o.take i ++ y :: o.drop i)).length c) (natInts (o.take i ++ y :: o.drop i)) := by rw [HLN.out]; exact hI
            have h2 := h1.set i ((o.getD (i - 1) 0 : Nat) : Int)
            rw [List.length_set, HLN.out, natInts_set, ins_step (by omega) (by have := HOL.out; omega)] at h2
            exact h2)
          obtain ⟨x, hx⟩ : ∃ x, x = o.getD (i - 1) 0 := ⟨_, rfl⟩
          rw [← hx] at hcell HST
          obtain ⟨i1, hi1⟩ : ∃ i1, i1 = i - 1 := ⟨_, rfl⟩
          rw [← hi1] at hwr hcell HST
          have HI1 := Lib.hid hi1
          have hb1 : i1 < v + 1 := by omega
          have hb2 : i < v + 1 := by omega
          clear e1 hI hx how hi1
          go_wp2_with fail
          go_roundw
          case rel => exact ⟨i1, x, by have := HI1.out; omega, by have := HI1.out; omega, by first | rfl | (rw [hwr]) | go_num, HST.out⟩
          case measure => have := HI1.out; simp [intOf]; omega
        · obtain rfl : i = k := by omega
          have hfz := how.frozenAt i
          have HST := Lib.hid (show DrwI w0 w (wr.setCell ⟨b, i, none⟩ (.int .i64 (v : Int))) db bs (.slice (some ⟨b, 0, none⟩) (v + 1) c) (natInts (o.take i ++ v :: o.drop i)) from by
            have h1 : DrwI w0 w wr db bs (.slice (some ⟨b, 0, none⟩) (natInts (o.take i ++ y :: o.drop i)).length c) (natInts (o.take i ++ y :: o.drop i)) := by rw [HLN.out]; exact hI
            have h2 := h1.set i (v : Int)
            rw [List.length_set, HLN.out, natInts_set, ins_end (by have := HOL.out; omega)] at h2
            exact h2)
          have hii : (i : Int) < ((v + 1 : Nat) : Int) := by omega
          clear hI how
          go_wp2_with fail
          go_roundw
          case rel => exact ⟨v + 1, o.take i ++ v :: o.drop i, by omega, by go_num, by have := HLN.out v; rw [natInts_length] at this; exact this, Lib.hid ⟨ins_nodup HO.out.1 (fun h => by have := HO.out.2 v h; omega), fun x hx => by
            rcases ins_mem.1 hx with rfl | h
            · omega
            · have := HO.out.2 x h; omega⟩, HST.out⟩
          case measure => simp [intOf]; omega
    · obtain rfl : v = n := by omega
      clear hI
      go_wp2_with fail
      go_ret
      exact ⟨_, o, rfl, HOL.out, HO.out.1, HO.out.2, HI.out⟩

set_option maxRecDepth 100000 in
set_option maxHeartbeats 4000000 in
theorem w5Set_any (w0 : World) (db : Nat) (bs : List Int) (n : Nat) (z : Int) (hz : z = n) (hn : n ≤ 1000) (w : World) (hd : Dice w0 w db bs) (hdb : db < w.heap.size) :
    Calls Tryd.prog 38 #[.pointer (some ⟨db, 0, none⟩), .int .i64 z] w fun e w' => ∃ (ov : Value) (o : List Nat), e = .returned ov ∧ o.length ≤ n ∧ o.Pairwise (· < ·) ∧ (∀ x ∈ o, x < n) ∧ DrwI w0 w w' db bs ov (natInts o) := by
  subst hz
  have START : Hid (DrwI w0 w (w.alloc (.cells #[] 2)) db bs (.slice (some ⟨w.heap.size, 0, none⟩) 0 0) (natInts [])) := Lib.hid ⟨hd.keep (below_alloc _ _), grown_of_below (below_alloc _ _) _, ownsRow_empty w 2 1, hdb⟩
  clear hd hdb
  go_enter Tryd.func38, Tryd.ntmps38
  go_wp2
  go_loopw [5, 6] (fun ov vv wr => ∃ (v : Nat) (o : List Nat), v ≤ n ∧ vv = .int .i64 (v : Int) ∧ o.length ≤ v ∧ Hid (o.Pairwise (· < ·) ∧ ∀ x ∈ o, x < v) ∧ DrwI w0 w wr db bs ov (natInts o)) (fun _ vv _ => n - (intOf vv).toNat)
  case atStart => exact ⟨0, [], Nat.zero_le _, rfl, Nat.le_refl _, Lib.hid ⟨by simp, by simp⟩, START.out⟩
  case round =>
    clear START
    obtain ⟨v, o, hv, rfl, hol, HO, hI⟩ := hrel
    have HI := Lib.hid hI
    by_cases hlt : v < n
    · have hvi : (v : Int) < (n : Int) := by omega
      clear hI
      go_upto_if 15 with (go_at_call 28; refine (below_any w0 db bs 2 _ rfl (by omega) (by omega) _ HI.out.dice).mono ?_; rintro e w2 ⟨k, rfl, hk, hd2, hg2⟩; have HI2 := Lib.hid (HI.out.throw hd2 hg2); clear hd2 hg2)
      by_cases hk0 : k = 0
      · have hown := HI2.out.own
        rw [natInts_length] at hown
        have hlow := HI2.out.gr.size
        have hke : ((k : Int) == 0) = true := by simp [hk0]
        clear hk0
        go_wp2_with (at_builtin; refine wpList_app1 ty_i64 rfl rfl rfl hown rfl rfl (by omega) hlow ?_; intro v7 w7 hown7 hg7 _)
        go_roundw
        case rel =>
          refine ⟨v + 1, o ++ [v], by omega, by go_num, by simp; omega, Lib.hid ⟨?_, ?_⟩, ?_⟩
          · rw [List.pairwise_append]
            exact ⟨HO.out.1, by simp, fun a ha b hb => by rw [List.mem_singleton] at hb; have := HO.out.2 a ha; omega⟩
          · intro x hx
            rcases List.mem_append.1 hx with h | h
            · have := HO.out.2 x h; omega
            · rw [List.mem_singleton] at h; omega
          · have := HI2.out.app (z := (v : Int)) (by rw [natInts_length]; exact hown7) hg7
            simpa [natInts] using this
        case measure => simp [intOf]; omega
      · have hke : ((k : Int) == 0) = false := beq_eq_false_iff_ne.2 (by omega)
        clear hk0
        go_wp2_with fail
        go_roundw
        case rel => exact ⟨v + 1, o, by omega, by go_num, by omega, Lib.hid ⟨HO.out.1, fun x hx => by have := HO.out.2 x hx; omega⟩, HI2.out⟩
        case measure => simp [intOf]; omega
    · obtain rfl : v = n := by omega
      clear hI
      go_wp2_with fail
      go_ret
      exact ⟨_, o, rfl, hol, HO.out.1, HO.out.2, HI.out⟩

end Go.Proofs.YtkppbmfliejnmaaDoor

/- Walks: the laws' own tests of lists: has, alike, all alike; a rising list with one more. -/
namespace Go.Proofs.YtkppbmfliejnmaaDoor
open Go.RowKit

set_option maxRecDepth 100000 in
set_option maxHeartbeats 400000 in
theorem w9Has_any (v : Value) (xs : List Int) (n : Int) (w : World) (hx : Nums w 2 .i64 v xs) :
    Calls Tryd.prog 81 #[v, .int .i64 n] w fun e w' => e = .returned (.bool (dec (n ∈ xs))) ∧ w = w' := by
  obtain ⟨p, c, rfl, _, _, hn, hat⟩ := hx
  go_enter Tryd.func81, Tryd.ntmps81
  go_wp2
  go_loop [5] (fun i => ∃ k : Nat, k ≤ xs.length ∧ i = .int .i64 k ∧ n ∉ xs.take k) (fun i => xs.length - (intOf i).toNat)
  case atStart => exact ⟨0, Nat.zero_le _, rfl, by simp⟩
  case round =>
    obtain ⟨k, hk, rfl, hnk⟩ := hrel
    by_cases hlt : k < xs.length
    · obtain ⟨b, o, rfl, hcell⟩ := hat.num hlt
      clear hat
      by_cases he : xs[k] = n
      · have he' : (xs[k] == n) = true := by simpa using he
        have H := Lib.hid he
        clear he
        go_wp2
        go_ret
        exact ⟨ret_bool (true_dec (mem_of_getElem hlt H.out)), rfl⟩
      · have he' : (xs[k] == n) = false := by simpa using he
        go_wp2
        go_round
        case rel => exact ⟨k + 1, by omega, by go_num, not_mem_take_succ hlt hnk he⟩
        case measure => simp [intOf]; omega
    · obtain rfl : k = xs.length := by omega
      go_wp2
      go_ret
      rw [List.take_length] at hnk
      exact ⟨ret_bool (false_dec hnk), rfl⟩

set_option maxRecDepth 100000 in
set_option maxHeartbeats 400000 in
theorem w6Has_any (v : Value) (xs : List Int) (n : Int) (w : World) (hx : Nums w 2 .i64 v xs) :
    Calls Tryd.prog 34 #[v, .int .i64 n] w fun e w' => e = .returned (.bool (dec (n ∈ xs))) ∧ w = w' := by
  obtain ⟨p, c, rfl, _, _, hn, hat⟩ := hx
  go_enter Tryd.func34, Tryd.ntmps34
  go_wp2
  go_loop [5] (fun i => ∃ k : Nat, k ≤ xs.length ∧ i = .int .i64 k ∧ n ∉ xs.take k) (fun i => xs.length - (intOf i).toNat)
  case atStart => exact ⟨0, Nat.zero_le _, rfl, by simp⟩
  case round =>
    obtain ⟨k, hk, rfl, hnk⟩ := hrel
    by_cases hlt : k < xs.length
    · obtain ⟨b, o, rfl, hcell⟩ := hat.num hlt
      clear hat
      by_cases he : xs[k] = n
      · have he' : (xs[k] == n) = true := by simpa using he
        have H := Lib.hid he
        clear he
        go_wp2
        go_ret
        exact ⟨ret_bool (true_dec (mem_of_getElem hlt H.out)), rfl⟩
      · have he' : (xs[k] == n) = false := by simpa using he
        go_wp2
        go_round
        case rel => exact ⟨k + 1, by omega, by go_num, not_mem_take_succ hlt hnk he⟩
        case measure => simp [intOf]; omega
    · obtain rfl : k = xs.length := by omega
      go_wp2
      go_ret
      rw [List.take_length] at hnk
      exact ⟨ret_bool (false_dec hnk), rfl⟩

set_option maxRecDepth 100000 in
set_option maxHeartbeats 1000000 in
theorem likeQ_any (u v : Value) (xs ys : List Int) (w : World) (hx : Nums w 2 .i64 u xs) (hy : Nums w 2 .i64 v ys) :
    Calls Tryd.prog 26 #[u, v] w fun e w' => e = .returned (.bool (dec (xs = ys))) ∧ ∃ q, w' = w.drewN q := by
  obtain ⟨p, c, rfl, hp, _, hn, hat⟩ := hx
  obtain ⟨p', c', rfl, hp', _, hn', hat'⟩ := hy
  by_cases hl : xs.length = ys.length
  case neg =>
    have hl' : ((xs.length : Int) != (ys.length : Int)) = true := by simp; omega
    go_enter Tryd.func26, Tryd.ntmps26
    go_wp2
    go_ret
    exact ⟨ret_bool (false_dec fun h => hl (by rw [h])), 0, rfl⟩
  have Hl := Lib.hid hl
  have hl' : ((xs.length : Int) != (ys.length : Int)) = false := by simp; omega
  clear hl
  go_enter Tryd.func26, Tryd.ntmps26
  go_wp2
  go_loopw [5] (fun i wr => ∃ k : Nat, k ≤ xs.length ∧ i = .int .i64 k ∧ xs.take k = ys.take k ∧ ∃ q, wr = w.drewN q) (fun i _ => xs.length - (intOf i).toNat)
  case atStart => exact ⟨0, Nat.zero_le _, rfl, by simp, 0, rfl⟩
  case round =>
    obtain ⟨k, hk, rfl, heq, q, rfl⟩ := hrel
    have Heq := Lib.hid heq
    clear heq
    by_cases hlt : k < xs.length
    · have hlt' : k < ys.length := by have := Hl.out; omega
      obtain ⟨b, o, rfl, hcell⟩ := hat.num hlt
      obtain ⟨b', o', rfl, hcell'⟩ := hat'.num hlt'
      clear hat hat'
      have e0 : (0 : Int) ≤ (k : Int) := by omega
      have e1 : (k : Int) < (xs.length : Int) := by omega
      have e2 : (k : Int) < (ys.length : Int) := by omega
      by_cases he : xs[k] = ys[k]
      · have he' : (xs[k] != ys[k]) = false := by simpa using he
        have He := Lib.hid he
        clear he
        go_wp2
        go_quiet (fail)
        go_wp2
        go_roundw
        case rel => exact ⟨k + 1, by omega, by go_num, by rw [take_snoc xs k hlt, take_snoc ys k hlt', Heq.out, He.out], _, rfl⟩
        case measure => simp [intOf]; omega
      · have he' : (xs[k] != ys[k]) = true := by simpa using he
        have He := Lib.hid he
        clear he
        go_wp2
        go_quiet (fail)
        go_wp2
        go_ret
        exact ⟨ret_bool (false_dec fun h => He.out (by subst h; rfl)), _, World.drewN_drewN _ _ _⟩
    · obtain rfl : k = xs.length := by omega
      go_wp2
      go_ret
      refine ⟨ret_bool (true_dec ?_), q, rfl⟩
      have h := Heq.out
      rwa [List.take_length, Hl.out, List.take_length] at h

theorem likeInts_any (u v : Value) (xs ys : List Int) (w : World) (hx : Nums w 2 .i64 u xs) (hy : Nums w 2 .i64 v ys) :
    Calls Tryd.prog 26 #[u, v] w fun e w' => e = .returned (.bool (dec (xs = ys))) ∧ Below w.heap.size w w' :=
  (likeQ_any u v xs ys w hx hy).mono fun _ _ ⟨h1, q, h2⟩ => ⟨h1, h2 ▸ below_dN (Below.refl _ _) q⟩

theorem intoL_app {v x : Int} : ∀ {l : List Int}, (∃ y ∈ l, ¬ y < v) → intoL (l ++ [x]) v = intoL l v ++ [x]
  | [], h => by obtain ⟨y, hy, _⟩ := h; simp at hy
  | a :: l, h => by
    rw [List.cons_append]
    unfold intoL
    by_cases h1 : a < v
    · rw [if_pos h1, if_pos h1, intoL_app (l := l) (by
        obtain ⟨y, hy, h2⟩ := h
        rcases List.mem_cons.1 hy with rfl | hy
        · exact absurd h1 h2
        · exact ⟨y, hy, h2⟩)]
      rfl
    · rw [if_neg h1, if_neg h1]
      split <;> rfl
theorem intoL_low {v : Int} : ∀ {l : List Int}, (∀ y ∈ l, y < v) → intoL l v = l ++ [v]
  | [], _ => rfl
  | a :: l, h => by
    unfold intoL
    rw [if_pos (h a (List.mem_cons_self ..)), intoL_low fun y hy => h y (List.mem_cons_of_mem _ hy)]
    rfl
theorem intoL_at {v : Int} : ∀ {l : List Int}, (∀ y ∈ l, y < v) → intoL (l ++ [v]) v = l ++ [v]
  | [], _ => by simp [intoL]
  | a :: l, h => by
    rw [List.cons_append]
    unfold intoL
    rw [if_pos (h a (List.mem_cons_self ..)), intoL_at fun y hy => h y (List.mem_cons_of_mem _ hy)]
theorem intoL_up {v x : Int} (hx : v < x) : ∀ {l : List Int}, (∀ y ∈ l, y < v) → intoL (l ++ [x]) v = l ++ [v] ++ [x]
  | [], _ => by
    have h1 : ¬ x < v := by omega
    have h2 : ¬ x = v := by omega
    simp [intoL, h1, h2]
  | a :: l, h => by
    rw [List.cons_append]
    unfold intoL
    rw [if_pos (h a (List.mem_cons_self ..)), intoL_up hx fun y hy => h y (List.mem_cons_of_mem _ hy)]
    rfl

end Go.Proofs.YtkppbmfliejnmaaDoor

/- Walks: sets as int64 (the reference's l25Bits, l25Many, l27Low, l27Part). -/
namespace Go.Proofs.YtkppbmfliejnmaaDoor
open Go.RowKit

def i64v (s : Nat) : Value := .int .i64 (s : Int)
theorem i64_or_nat (a b : Nat) (ha : a < 4294967296) (hb : b < 4294967296) : bits BinOp.or IntKind.i64 (a : Int) (b : Int) = ((a ||| b : Nat) : Int) :=
  (bits_nat .i64 32 (by decide) (fun n h1 h2 => by rw [IntKind.wrap_i64]; omega) a b (by omega) (by omega)).2
theorem i64_andNot_nat (a b : Nat) (ha : a < 4294967296) (hb : b < 4294967296) : bits BinOp.andNot IntKind.i64 (a : Int) (b : Int) = ((sub a b : Nat) : Int) := by
  have hx : sub a b < 2 ^ 32 := sub_lt32 _ _ ha
  show IntKind.i64.wrap ((BitVec.ofInt 64 (a : Int) &&& ~~~BitVec.ofInt 64 (b : Int)).toNat : Int) = _
  have e1 : (BitVec.ofInt 64 (a : Int)).toNat = a := by rw [BitVec.ofInt_natCast, BitVec.toNat_ofNat]; omega
  have e2 : (BitVec.ofInt 64 (b : Int)).toNat = b := by rw [BitVec.ofInt_natCast, BitVec.toNat_ofNat]; omega
  have e3 : a &&& (2 ^ 64 - 1 - b) = sub a b := Nat.eq_of_testBit_eq fun j => by
    rw [testBit_sub _ _ ha hb, Nat.testBit_and]
    have h64 : b < 2 ^ 64 := by omega
    rw [show 2 ^ 64 - 1 - b = 2 ^ 64 - (b + 1) by omega, Nat.testBit_two_pow_sub_succ h64]
    by_cases hj : j < 64
    · simp [hj]
    · have : a.testBit j = false := Nat.testBit_lt_two_pow (Nat.lt_of_lt_of_le (show a < 2 ^ 32 by omega) (Nat.pow_le_pow_right (by decide) (by omega)))
      simp [this]
  rw [BitVec.toNat_and, BitVec.toNat_not, e1, e2, e3, IntKind.wrap_i64]
  omega
theorem shrB_bit (s k : Nat) (hs : s < 65536) : bits BinOp.and IntKind.i64 ((s : Int) / 2 ^ k) 1 = ((if s.testBit k then 1 else 0 : Nat) : Int) := by
  have e : ((s : Int) / 2 ^ k) = ((s / 2 ^ k : Nat) : Int) := by simp
  rw [e]
  have h1 : s / 2 ^ k < 4294967296 := Nat.lt_of_le_of_lt (Nat.div_le_self _ _) (by omega)
  have := i64_and_nat (s / 2 ^ k) 1 h1 (by decide)
  rw [show ((1 : Nat) : Int) = 1 from rfl] at this
  rw [this, Nat.and_one_is_mod, Nat.testBit_eq_decide_div_mod_eq]
  by_cases h : s / 2 ^ k % 2 = 1
  · simp [h]
  · have : s / 2 ^ k % 2 = 0 := by omega
    simp [this]
theorem bits_deg {n : Nat} (hn : n ≤ 16) {E : Nat → Nat → Bool} {v s : Nat} (hs : s < 65536) (hb : ∀ j, s.testBit j = (decide (j < n) && E v j)) : (bitsOf s).length = degN n E v := by
  have : bitsOf s = (List.range n).filter (E v) := rising_ext _ _ (bitsOf_rising _) (List.Pairwise.filter _ List.pairwise_lt_range) fun x => by
    rw [mem_left hs, hb, List.mem_filter, List.mem_range]
    simp
  rw [this]
  unfold degN
  rw [List.countP_eq_length_filter]

end Go.Proofs.YtkppbmfliejnmaaDoor
