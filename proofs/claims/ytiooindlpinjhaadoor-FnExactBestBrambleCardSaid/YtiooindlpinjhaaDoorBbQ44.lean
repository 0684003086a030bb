/- Walk: the reference's BestBramble (printed by wip/mkBe.py). -/
import Derived.Test.YtiooindlpinjhaaDoorBbQ31
import Derived.Test.YtiooindlpinjhaaDoorBbQ36
import Derived.Test.YtiooindlpinjhaaDoorBbQ37
import Derived.Test.YtiooindlpinjhaaDoorBbQ42
import Derived.Test.YtiooindlpinjhaaDoorBbQ24
import Derived.Test.YtiooindlpinjhaaDoorBbQ43
import Derived.Test.YtiooindlpinjhaaDoorBbQ19
namespace Go.Proofs.YtiooindlpinjhaaDoor
open Go.RowKit

theorem ty_rowsBe : SlTy Tryd.prog 22 26 (.slice none 0 0) 1 24 := ⟨Tryd.underlying22, by kernel_rfl, rfl, by decide, by decide⟩
theorem ty_rowssBe : SlTy Tryd.prog 94 22 (.slice none 0 0) 1 24 := ⟨Tryd.underlying94, by kernel_rfl, rfl, by decide, by decide⟩

/-- A row of one's own; its rows of rows are read alone. -/
def OG (w : World) (base : Nat) (v : Value) (C : List (List (List Nat))) : Prop :=
  ∃ vals, vals.length = C.length ∧ w.ownsRow base 22 1 v C.length vals ∧ ∀ j, j < C.length → Rws w 26 2 (vals.getD j undef) ((C.getD j []).map natInts)
theorem OG.below {w w' : World} {base : Nat} {v : Value} {C : List (List (List Nat))} (h : OG w base v C) (hb : Below w.heap.size w w') : OG w' base v C := by
  obtain ⟨vals, h1, h2, h3⟩ := h
  exact ⟨vals, h1, ownsRow_below h2 hb, fun j hj => (h3 j hj).below hb⟩
theorem OG.cg {w : World} {base : Nat} {v : Value} {C : List (List (List Nat))} (h : OG w base v C) (hl : C.length ≤ 1000000000) : CG w v C := by
  obtain ⟨vals, h1, h2, h3⟩ := h
  exact ⟨vals, h1, Sl.of_owns h2 hl, h3⟩
theorem og_push {w w' : World} {base : Nat} {v v' rv : Value} {C : List (List (List Nat))} {ps : List (List Nat)} {vals : List Value} (hl : vals.length = C.length) (ho : w.ownsRow base 22 1 v C.length vals) (hr : ∀ j, j < C.length → Rws w 26 2 (vals.getD j undef) ((C.getD j []).map natInts))
    (hrv : Rws w 26 2 rv (ps.map natInts)) (ho' : w'.ownsRow base 22 1 v' (C.length + 1) (vals ++ [rv])) (hg : w.grownBy w' v.ownBlock) : OG w' base v' (C ++ [ps]) := by
  refine ⟨vals ++ [rv], by simp [hl], by rw [List.length_append, List.length_singleton]; exact ho', fun j hj => ?_⟩
  rw [List.length_append, List.length_singleton] at hj
  by_cases e : j < C.length
  · rw [getD_append_left _ _ _ _ (by omega), getD_append_left _ _ _ _ e]
    exact (hr j e).other ho hg (by decide) (by decide)
  · obtain rfl : j = C.length := by omega
    have e1 := getD_append_last vals rv undef
    rw [hl] at e1
    rw [e1, getD_append_last]
    exact hrv.other ho hg (by decide) (by decide)

/-- Who is left, of those below v. -/
def restT (o : List Nat) (v : Nat) : List Nat := (List.range v).filter fun x => decide (x ∉ o)
theorem restT_in {o : List Nat} {v : Nat} (h : v ∈ o) : restT o (v + 1) = restT o v := by simp [restT, List.range_succ, h]
theorem restT_out {o : List Nat} {v : Nat} (h : v ∉ o) : restT o (v + 1) = restT o v ++ [v] := by simp [restT, List.range_succ, h]
theorem restT_len (o : List Nat) (v : Nat) : (restT o v).length ≤ v := by
  have := List.length_filter_le (fun x => decide (x ∉ o)) (List.range v)
  rwa [List.length_range] at this
theorem mem_natIntsBe {v : Nat} {o : List Nat} : (v : Int) ∈ natInts o ↔ v ∈ o := by
  constructor
  · intro h
    obtain ⟨a, h1, h2⟩ := List.mem_map.1 h
    have : a = v := by omega
    rw [← this]; exact h1
  · exact fun h => List.mem_map.2 ⟨v, h, rfl⟩
theorem natInts_injBe {a b : List Nat} (h : natInts a = natInts b) : a = b := by
  have := congrArg (List.map Int.toNat) h
  simpa [natInts, Function.comp_def] using this

/-- Everything but the row that grows is as it was. -/
structure KpI (w7 wr : World) (ob : Nat) : Prop where
  size : w7.heap.size ≤ wr.heap.size
  kept : ∀ b, b < w7.heap.size → b ≠ ob → wr.heap[b]? = w7.heap[b]?
theorem KpI.next {w7 wr w' : World} {ob : Nat} (h : KpI w7 wr ob) (hb : Below wr.heap.size wr w') : KpI w7 w' ob :=
  ⟨Nat.le_trans h.size hb.size, fun b h1 h2 => (hb.block b (by have := h.size; omega)).trans (h.kept b h1 h2)⟩
theorem KpI.grow {w7 wr w' : World} {ob : Nat} {ov : Value} (h : KpI w7 wr ob) (hs : ∀ k, ov.ownBlock = some k → k = ob ∨ w7.heap.size ≤ k) (hg : wr.grownBy w' ov.ownBlock) : KpI w7 w' ob :=
  ⟨Nat.le_trans h.size hg.size, fun b h1 h2 => (hg.block b (by have := h.size; omega) fun e => by
    rcases hs b e.symm with e2 | e2
    · exact h2 e2
    · omega).trans (h.kept b h1 h2)⟩
theorem KpI.nums {w7 wr : World} {ob : Nat} (h : KpI w7 wr ob) (he : w7.heap[ob]? = some (.cells #[] 26 (0, 0))) {v : Value} {xs : List Int} (hn : Nums w7 2 .i64 v xs) : Nums wr 2 .i64 v xs :=
  Sl.keep hn fun b cur fz hb => h.kept b (Array.getElem?_eq_some_iff.1 hb).1 fun e => by
    rw [e, he] at hb
    simp only [Option.some.injEq, Obj.cells.injEq] at hb
    exact absurd hb.2.1 (by decide)
theorem KpI.cell {w7 wr : World} {ob : Nat} (h : KpI w7 wr ob) (he : w7.heap[ob]? = some (.cells #[] 26 (0, 0))) {b o : Nat} {u : Value} (hc : w7.cell? ⟨b, o, none⟩ = some u) : wr.cell? ⟨b, o, none⟩ = some u := by
  have hbo : b ≠ ob := fun e => by
    rw [e] at hc
    unfold World.cell? at hc
    rw [he] at hc
    simp at hc
  have hkk := h.kept b (World.block_lt_of_cell? w7 _ hc) hbo
  unfold World.cell? at hc ⊢
  rw [hkk]
  exact hc

/-- The row that grows. -/
structure BqI (w7 wr : World) (ob base : Nat) (ov : Value) (L : List (List Nat)) (vals : List Value) : Prop where
  kp : KpI w7 wr ob
  vl : vals.length = L.length
  own : wr.ownsRow base 26 1 ov L.length vals
  nrow : ∀ j, j < L.length → Nums wr 2 .i64 (vals.getD j undef) (natInts (L.getD j []))
  sep : ∀ k, ov.ownBlock = some k → k = ob ∨ w7.heap.size ≤ k
theorem BqI.next {w7 wr w' : World} {ob base : Nat} {ov : Value} {L : List (List Nat)} {vals : List Value} (h : BqI w7 wr ob base ov L vals) (hb : Below wr.heap.size wr w') : BqI w7 w' ob base ov L vals :=
  ⟨h.kp.next hb, h.vl, ownsRow_below h.own hb, fun j hj => (h.nrow j hj).below hb, h.sep⟩
theorem BqI.push {w7 wr w' : World} {ob base : Nat} {ov ov' rv : Value} {L : List (List Nat)} {p : List Nat} {vals : List Value} (h : BqI w7 wr ob base ov L vals) (hn : Nums wr 2 .i64 rv (natInts p)) (ho : w'.ownsRow base 26 1 ov' (L.length + 1) (vals ++ [rv])) (hg : wr.grownBy w' ov.ownBlock) (hs : ∀ k, ov'.ownBlock = some k → ov.ownBlock = some k ∨ wr.heap.size < k) : BqI w7 w' ob base ov' (L ++ [p]) (vals ++ [rv]) where
  kp := h.kp.grow h.sep hg
  vl := by simp [h.vl]
  own := by rw [List.length_append, List.length_singleton]; exact ho
  nrow j hj := by
    rw [List.length_append, List.length_singleton] at hj
    by_cases e : j < L.length
    · rw [getD_append_left _ _ _ _ (by rw [h.vl]; exact e), getD_append_left _ _ _ _ e]
      exact (h.nrow j e).other h.own hg (by decide)
    · obtain rfl : j = L.length := by omega
      have e1 := getD_append_last vals rv undef
      rw [h.vl] at e1
      rw [e1, getD_append_last]
      exact hn.other h.own hg (by decide)
  sep k hk := by
    rcases hs k hk with e | e
    · exact h.sep k e
    · have := h.kp.size; exact .inr (by omega)
theorem BqI.sg {w7 wr : World} {ob base : Nat} {ov : Value} {L : List (List Nat)} {vals : List Value} (h : BqI w7 wr ob base ov L vals) : SG wr base (.agg #[ov]) (L.map natInts) := by
  refine ⟨ov, vals, rfl, by rw [List.length_map]; exact h.vl, by rw [List.length_map]; exact h.own, fun j hj => ?_⟩
  rw [List.length_map] at hj
  have e : row (L.map natInts) j = natInts (L.getD j []) := by simp [row, hj]
  rw [e]
  exact h.nrow j hj
theorem BqI.get {w7 wr : World} {ob base : Nat} {op : Option Addr} {oc m : Nat} {L : List (List Nat)} {vals : List Value} (h : BqI w7 wr ob base (.slice op m oc) L vals) {j : Nat} (hj : j < L.length) : ∃ b pp pc, op = some ⟨b, 0, none⟩ ∧ wr.cell? ⟨b, j, none⟩ = some (.slice pp (L.getD j []).length pc) ∧ Nums wr 2 .i64 (.slice pp (L.getD j []).length pc) (natInts (L.getD j [])) := by
  have h1 := h.nrow j hj
  obtain ⟨pp, pc, e, _⟩ := id h1.shape
  rw [natInts_length] at e
  rcases id h.own.2 with ⟨_, h0⟩ | ⟨b, c, cur, e2, _⟩
  · omega
  · simp only [Value.slice.injEq] at e2
    have hm := e2.2.1
    subst hm
    have hc := h.own
    rw [e2.1] at hc
    have h9 := hc.cellAt j (by have := h.vl; omega)
    rw [e] at h1
    refine ⟨b, pp, pc, e2.1, ?_, h1⟩
    rw [h9, ← e, List.getD_eq_getElem?_getD, List.getElem?_eq_getElem (by have := h.vl; omega)]
    rfl

set_option maxRecDepth 100000 in
set_option maxHeartbeats 8000000 in
theorem specBestBramble_any (v : Value) (g : List (List Int)) (w : World) (hg : Gr w v g) :
    Calls Tryd.prog 29 #[v] w fun e w' => ∃ (u : Value) (gg : List (List Int)), e = .returned u ∧ BbS g gg ∧ SG w' w.heap.size (.agg #[u]) gg ∧ gg.length ≤ 65536 ∧ (∀ j, (row gg j).length ≤ 32) ∧ Below w.heap.size w w' := by
  have hg0 := Lib.hid hg
  obtain ⟨_, rfl, hr⟩ := hg
  obtain ⟨ga, gc, rfl, _⟩ := hr.shape
  obtain ⟨w1, hw1⟩ : ∃ w1, w1 = w.alloc (.cells #[.slice ga g.length gc] 28) := ⟨_, rfl⟩
  have HX : Hid (Box w1 w.heap.size 28 (.slice ga g.length gc)) := Lib.hid (by rw [hw1]; exact Box.new _ _ _)
  have HB1 : Hid (Below w.heap.size w w1) := Lib.hid (by rw [hw1]; exact below_alloc _ _)
  obtain ⟨gb, hgb⟩ : ∃ gb, gb = w.heap.size := ⟨_, rfl⟩
  rw [← hgb] at HX
  have s1 := HB1.out.size
  obtain ⟨w2, hw2⟩ : ∃ w2, w2 = w1.alloc (.cells #[] 26) := ⟨_, rfl⟩
  obtain ⟨ob, hob⟩ : ∃ ob, ob = w1.heap.size := ⟨_, rfl⟩
  have hb2 : Below w1.heap.size w1 w2 := by rw [hw2]; exact below_alloc _ _
  have HO2 : Hid (w2.ownsRow w.heap.size 26 1 (.slice (some ⟨ob, 0, none⟩) 0 0) 0 []) := Lib.hid (ownsRow_base (by rw [hw2, hob]; exact ownsRow_empty w1 26 1) s1)
  have HE2 : Hid (w2.heap[ob]? = some (.cells #[] 26 (0, 0))) := Lib.hid (by rw [hw2, hob]; exact heap_alloc_new _ _)
  have HOB : Hid (ob < w2.heap.size) := Lib.hid (by rw [hw2, hob, size_alloc]; omega)
  have HB2 : Hid (Below w.heap.size w w2) := Lib.hid (HB1.out.trans (hb2.mono s1))
  have HX2 := Lib.hid (HX.out.keep hb2)
  have HG2 := Lib.hid (hg0.out.below HB2.out)
  have s2 := HB2.out.size
  clear hr hg0 hb2
  by_cases hok : GOk g ∧ g.length ≤ 8
  case neg =>
    have HD := Lib.hid (dec_false hok)
    have HOK := Lib.hid hok
    clear hok
    have c2 := HX2.out.cell
    go_enter Tryd.func29, Tryd.ntmps29
    go_upto_region 1 with fail
    rw [← hw1, ← hgb]
    clear hw1 hgb
    go_upto_region 2 with fail
    rw [← hw2, ← hob]
    clear hw2 hob
    go_wp2_with (go_at_call 82; refine (l4Small_any _ g _ HG2.out).mono ?_; rintro e w3 ⟨he, hb3⟩; rw [HD.out] at he; subst he)
    go_ret
    exact ⟨_, [], rfl, .inr ⟨HOK.out, rfl⟩, ⟨_, [], rfl, rfl, ownsRow_below HO2.out hb3, fun j hj => by simp at hj⟩, by simp, fun j => by simp [row], HB2.out.trans (hb3.mono s2)⟩
  have HD := Lib.hid (dec_true hok)
  have HOK := Lib.hid hok
  have n8 := hok.2
  clear hok
  have c2 := HX2.out.cell
  go_enter Tryd.func29, Tryd.ntmps29
  go_upto_region 1 with fail
  rw [← hw1, ← hgb]
  clear hw1 hgb
  go_upto_region 2 with fail
  rw [← hw2, ← hob]
  clear hw2 hob
  obtain ⟨n, hn⟩ : ∃ n, n = g.length := ⟨_, rfl⟩
  obtain ⟨k, hk⟩ : ∃ k, k = twS g.length (ofG g) 0 := ⟨_, rfl⟩
  have hkn : k ≤ g.length := by rw [hk]; exact twS_le g.length (ofG g) _ 0 rfl
  obtain ⟨Z, hZ⟩ : ∃ Z, Z = setsL g.length k := ⟨_, rfl⟩
  have hZl : Z.length ≤ 65536 := by rw [hZ]; exact setsL_len (by omega) _
  have HK := Lib.hid hk
  have HN := Lib.hid hn
  have HZ := Lib.hid hZ
  have hk16 : k ≤ 16 := by omega
  have hn16 : g.length ≤ 16 := by omega
  have TWD : Hid (∀ wz, Below w2.heap.size w2 wz → Calls Tryd.prog 40 #[.agg #[.slice ga g.length gc]] wz fun e w' => e = .returned (.int .i64 (k : Int)) ∧ Below wz.heap.size wz w') := Lib.hid fun wz hb => by
    rw [HK.out]
    exact specTreeWidth_any _ g HOK.out.1 (by omega) wz (HG2.out.below hb)
  clear hk hn hZ
  go_upto_region 4 with (go_at_call 82; refine (l4Small_any _ g _ HG2.out).mono ?_; rintro e w3 ⟨he, hb3⟩; rw [HD.out] at he; subst he; have HB3 := Lib.hid hb3; have c3 := hb3.at' c2; clear hb3)
  have s3 := HB3.out.size
  go_upto_region 5 with (go_at_call 75; refine (l1Size_any _ g _ (HG2.out.below HB3.out)).mono ?_; rintro e w4 ⟨rfl, hb4⟩; have HB4 : Hid (Below w2.heap.size w2 w4) := Lib.hid (HB3.out.trans (hb4.mono HB3.out.size)); have c4 := hb4.at' c3; clear hb4)
  have s4 := HB4.out.size
  clear c2 c3
  go_upto_region 6 with (first
    | (go_at_call 83; refine (l11Sets_any _ _ g.length k rfl rfl hn16 hk16 _).mono ?_; rintro e w6 ⟨su, rfl, hs6, hb6⟩; obtain ⟨sp, sc, rfl⟩ := hs6.shape1; have HS6 := Lib.hid hs6; have HB6 : Hid (Below w2.heap.size w2 w6) := Lib.hid (HB5.out.trans (hb6.mono HB5.out.size)); have c6 := hb6.at' c5; clear hs6 hb6)
    | (go_at_call 40; refine (TWD.out _ HB4.out).mono ?_; rintro e w5 ⟨rfl, hb5⟩; have HB5 : Hid (Below w2.heap.size w2 w5) := Lib.hid (HB4.out.trans (hb5.mono HB4.out.size)); have c5 := hb5.at' c4; clear hb5))
  have s6 := HB6.out.size
  have HRS : Hid (Rws w6 26 2 (.slice sp Z.length sc) (Z.map natInts)) := Lib.hid (by
    obtain ⟨_, e, h⟩ := HS6.out.gr (by rw [List.length_map, ← HZ.out]; omega)
    cases e
    rw [List.length_map, ← HZ.out] at h
    exact h)
  obtain ⟨zl, hzl⟩ : ∃ zl, zl = Z.length := ⟨_, rfl⟩
  have HZL : Hid (zl = Z.length) := Lib.hid hzl
  have hzl2 : zl ≤ 65536 := by omega
  have hzs : (setsL g.length k).length = zl := by rw [← HZ.out, hzl]
  rw [hzs]
  rw [← hzl] at HRS
  clear hzs hzl c4 c5 hZl
  obtain ⟨w7, hw7⟩ : ∃ w7, w7 = w6.alloc (.cells #[] 22) := ⟨_, rfl⟩
  have hb7 : Below w6.heap.size w6 w7 := by rw [hw7]; exact below_alloc _ _
  have HO7 : Hid (OG w7 w6.heap.size (.slice (some ⟨w6.heap.size, 0, none⟩) 0 0) []) := Lib.hid ⟨[], rfl, (by rw [hw7]; exact ownsRow_empty w6 22 1), fun j hj => absurd hj (Nat.not_lt_zero _)⟩
  have HB67 := Lib.hid hb7
  go_upto_region 7 with fail
  rw [← hw7]
  clear hw7 hb7 c6
  have HC : Hid (∀ i (h : i < Z.length), choL g.length (ofG g) (Z.take (i + 1)) = choL g.length (ofG g) (Z.take i) ++ [prtK (ofG g) (restO g.length Z[i])]) := Lib.hid (fun i h => by unfold choL; rw [List.take_succ_eq_append_getElem h, List.map_append]; rfl)
  go_wp2
  go_loopw [6, 7] (fun cv iv wr => ∃ i : Nat, i ≤ zl ∧ iv = .int .i64 (i : Int) ∧ Hid (OG wr w6.heap.size cv (choL g.length (ofG g) (Z.take i))) ∧ Hid (Below w6.heap.size w6 wr)) (fun _ iv _ => zl - (intOf iv).toNat)
  case atStart => exact ⟨0, Nat.zero_le _, rfl, HO7, HB67⟩
  case round =>
    clear HO7 HB67
    obtain ⟨i, hi, rfl, HO, HB⟩ := hrel
    obtain ⟨cp, cc, hcv⟩ : ∃ p c, u6 = .slice p i c := by
      obtain ⟨vals, _, h2, _⟩ := HO.out
      have h3 : (choL g.length (ofG g) (Z.take i)).length = i := by rw [choL_length, List.length_take, ← HZL.out]; omega
      rw [h3] at h2
      rcases h2.2 with ⟨rfl, h0⟩ | ⟨b, c, _, rfl, _⟩
      · exact ⟨none, 0, by rw [h0]⟩
      · exact ⟨_, _, rfl⟩
    rw [hcv] at HO ⊢
    clear hcv
    have HB27 : Hid (Below w2.heap.size w2 wr) := Lib.hid (HB6.out.trans (HB.out.mono s6))
    have cg := (HX2.out.keep HB27.out).cell
    by_cases hlt : i < zl
    · have hlZ : i < Z.length := by rw [← HZL.out]; exact hlt
      obtain ⟨o, hoe⟩ : ∃ o, o = Z[i] := ⟨_, rfl⟩
      obtain ⟨ol, hol⟩ : ∃ ol, ol = o.length := ⟨_, rfl⟩
      obtain ⟨zb, z0, pp, pq, rfl, hzc, HNO⟩ : ∃ b z pp pq, sp = some ⟨b, z, none⟩ ∧ wr.cell? ⟨b, z + i, none⟩ = some (.slice pp ol pq) ∧ Hid (Nums wr 2 .i64 (.slice pp ol pq) (natInts o)) := by
        obtain ⟨b, z, pp, pq, e1, e2, e3⟩ := HRS.out.get (k := i) (by rw [List.length_map]; exact hlZ)
        have e4 : (Z.map natInts).getD i [] = natInts o := by rw [List.getD_eq_getElem?_getD, List.getElem?_eq_getElem (by rw [List.length_map]; exact hlZ)]; simp [hoe]
        rw [e4, natInts_length, ← hol] at e2 e3
        exact ⟨b, z, pp, pq, e1, HB.out.at' e2, Lib.hid (e3.below HB.out)⟩
      have HCS : Hid (choL g.length (ofG g) (Z.take (i + 1)) = choL g.length (ofG g) (Z.take i) ++ [prtK (ofG g) (restO g.length o)]) := Lib.hid (by rw [HC.out i hlZ, hoe])
      have HZC := Lib.hid hzc
      obtain ⟨wa, hwa⟩ : ∃ wa, wa = wr := ⟨_, rfl⟩
      rw [← hwa] at HO HB HB27 HNO HZC cg ⊢
      have sa := HB.out.size
      obtain ⟨wb, hwb⟩ : ∃ wb, wb = wa.alloc (.cells #[] 2) := ⟨_, rfl⟩
      have HBb : Hid (Below wa.heap.size wa wb) := Lib.hid (by rw [hwb]; exact below_alloc _ _)
      have HR0 : Hid (wb.ownsRow wa.heap.size 2 1 (.slice (some ⟨wa.heap.size, 0, none⟩) 0 0) (restT o 0).length ((natInts (restT o 0)).map (Value.int .i64))) := Lib.hid (by rw [hwb]; exact ownsRow_empty wa 2 1)
      clear hzc hoe hol hlZ hwa
      go_upto_region 11 with fail
      rw [← hwb]
      clear hwb
      go_wp2
      go_loopw [8, 9] (fun rv vv wr => ∃ v : Nat, v ≤ g.length ∧ vv = .int .i64 (v : Int) ∧ Hid (wr.ownsRow wa.heap.size 2 1 rv (restT o v).length ((natInts (restT o v)).map (Value.int .i64))) ∧ Hid (Below wa.heap.size wa wr)) (fun _ vv _ => g.length - (intOf vv).toNat)
      case atStart => exact ⟨0, Nat.zero_le _, rfl, HR0, HBb⟩
      case round =>
        clear HR0 HBb cg
        obtain ⟨v, hv, rfl, HR, HBr⟩ := hrel
        have hrl := restT_len o v
        have hzc := HBr.out.at' HZC.out
        by_cases hvn : v < g.length
        · have HAS : Hid (∀ wz, Below wa.heap.size wa wz → Calls Tryd.prog 72 #[.slice pp ol pq, .int .i64 (v : Int)] wz fun e w' => e = .returned (.bool (dec ((v : Int) ∈ natInts o))) ∧ wz = w') := Lib.hid fun wz hz => l1Has_any _ (natInts o) (v : Int) wz (HNO.out.below hz)
          by_cases hin : v ∈ o
          · have hd := Lib.hid (dec_true (mem_natIntsBe.2 hin))
            have HIN := Lib.hid hin
            clear hin
            go_wp2_with (go_at_call 72; refine (HAS.out _ HBr.out).mono ?_; rintro e w8 ⟨he, hw⟩; rw [hd.out] at he; subst he; subst hw)
            go_roundw
            case rel => exact ⟨v + 1, by omega, by go_num, by rw [restT_in HIN.out]; exact HR, HBr⟩
            case measure => simp [intOf]; omega
          · have hd := Lib.hid (dec_false (fun h => hin (mem_natIntsBe.1 h)))
            have HIN := Lib.hid hin
            have hr9 : (restT o v).length < 1000000000 := by omega
            have hsz := HBr.out.size
            clear hin
            go_wp2_with (first
              | (at_builtin; refine wpList_app1 ty_i64 rfl rfl rfl HR.out rfl rfl hr9 hsz ?_; intro v' w8 hown8 hg8 _; have HR8 : Hid (w8.ownsRow wa.heap.size 2 1 v' (restT o (v + 1)).length ((natInts (restT o (v + 1))).map (Value.int .i64))) := Lib.hid (by rw [restT_out HIN.out, natInts_snoc, List.map_append, List.length_append]; exact hown8); have HB8 : Hid (Below wa.heap.size wa w8) := Lib.hid (below_grown HBr.out HR.out hg8 (Nat.le_refl _) hsz); clear hown8 hg8)
              | (go_at_call 72; refine (HAS.out _ HBr.out).mono ?_; rintro e w8 ⟨he, hw⟩; rw [hd.out] at he; subst he; subst hw))
            go_roundw
            case rel => exact ⟨v + 1, by omega, by go_num, HR8, HB8⟩
            case measure => simp [intOf]; omega
        · obtain rfl : v = g.length := by omega
          have HNR := Lib.hid (Nums.of_owns (K := .i64) (xs := natInts (restT o g.length)) HR.out (by rw [natInts_length]) (by omega))
          have PRT : Hid (Calls Tryd.prog 84 #[.agg #[.slice ga g.length gc], u8] wr fun e w' => ∃ (rp : Option Addr) (rl rc : Nat), e = .returned (.slice rp rl rc) ∧ Hid (Rws w' 26 2 (.slice rp rl rc) ((prtK (ofG g) (restO g.length o)).map natInts)) ∧ Below wr.heap.size wr w') := Lib.hid (by
            refine (l3Parts_any _ _ g (restT o g.length) HOK.out.1 (by omega) (restO_rising g.length o) (fun x hx => (mem_restO.1 (show x ∈ restO g.length o from hx)).1) wr (HG2.out.below (HB27.out.trans (HBr.out.mono HB27.out.size))) HNR.out).mono ?_
            rintro e w' ⟨r, ps, rfl, hps, hsg, hpl, _, hb⟩
            have e := prtK_eq hps
            subst e
            obtain ⟨_, e2, h⟩ := hsg.gr (by rw [List.length_map]; omega)
            cases e2
            obtain ⟨rp, rc, rfl⟩ := hsg.shape1
            exact ⟨rp, _, rc, rfl, Lib.hid h, hb⟩)
          have cg := HBr.out.at' ((HX2.out.keep HB27.out).cell)
          obtain ⟨vals, hvl, hown, hrw⟩ := OG.below HO.out HBr.out
          have HVL := Lib.hid hvl
          have HOW := Lib.hid hown
          have HRW := Lib.hid hrw
          have hcl : (choL g.length (ofG g) (Z.take i)).length ≤ 65536 := by rw [choL_length, List.length_take]; omega
          have hcl9 : (choL g.length (ofG g) (Z.take i)).length < 1000000000 := by omega
          have HB6r : Hid (Below w6.heap.size w6 wr) := Lib.hid (HB.out.trans (HBr.out.mono sa))
          have hsw : w6.heap.size ≤ wr.heap.size := HB6r.out.size
          clear hvl hown hrw hrl
          go_wp2_with (first
            | (at_builtin; refine wpList_app1 ty_rowssBe rfl rfl rfl (ownsRow_below HOW.out HB8.out) rfl rfl hcl9 (Nat.le_trans hsw HB8.out.size) ?_; intro v' w9 hown9 hg9 _; have HO9 : Hid (OG w9 w6.heap.size v' (choL g.length (ofG g) (Z.take (i + 1)))) := Lib.hid (by rw [HCS.out]; exact og_push HVL.out (ownsRow_below HOW.out HB8.out) (fun j hj => (HRW.out j hj).below HB8.out) HRV8.out hown9 hg9); have HB9 : Hid (Below w6.heap.size w6 w9) := Lib.hid (below_grown (HB6r.out.trans (HB8.out.mono hsw)) (ownsRow_below HOW.out HB8.out) hg9 (Nat.le_refl _) (Nat.le_trans hsw HB8.out.size)); clear hown9 hg9)
            | (go_at_call 84; refine PRT.out.mono ?_; rintro e w8 ⟨r1, r2, r3, rfl, HRV8, hb8⟩; have HB8 := Lib.hid hb8; clear hb8))
          go_roundw
          case rel => exact ⟨i + 1, by omega, by go_num, HO9, HB9⟩
          case measure => simp [intOf]; omega
    · obtain rfl : i = zl := by omega
      have HCG : Hid (CG wr (.slice cp i cc) (choL g.length (ofG g) Z)) := Lib.hid (by
        have h1 := HO.out.cg (by rw [choL_length, List.length_take]; omega)
        rw [HZL.out, List.take_length] at h1
        rw [HZL.out]
        exact h1)
      have PICK : Hid (∀ wz hb, Below wr.heap.size wr wz → Rws wz 26 2 (.slice (some ⟨hb, 0, none⟩) 0 0) [] → Calls Tryd.prog 85 #[.agg #[.slice ga g.length gc], .slice cp i cc, .slice (some ⟨hb, 0, none⟩) 0 0] wz fun e w' => ∃ (up : Option Addr) (ul uc : Nat), e = .returned (.slice up ul uc) ∧ Hid (ul = (bbC g.length (ofG g)).length ∧ Rws w' 26 2 (.slice up ul uc) ((bbC g.length (ofG g)).map natInts)) ∧ Below wz.heap.size wz w') := Lib.hid fun wz hb hz hsl => by
        have hci : i = (choL g.length (ofG g) Z).length := by rw [choL_length, HZL.out]
        have hbb : bbC g.length (ofG g) = (pickN (TchG (ofG g)) (choL g.length (ofG g) Z) i []).getD [] := by
          unfold bbC bbO bbZ
          rw [← HK.out, ← HZ.out, ← HZL.out]
          rfl
        rw [hbb]
        refine (l11Pick_any g HOK.out.1 ga gc (choL g.length (ofG g) Z) cp cc i hci choL_setN (by omega) i 0 [] rfl (by omega) (fun p hp => by simp at hp) _ 0 wz (HG2.out.below (HB27.out.trans (hz.mono HB27.out.size))) (HCG.out.next hz) hsl).mono ?_
        rintro e w' ⟨up, ul, uc, rfl, h1, h2, h3⟩
        exact ⟨up, ul, uc, rfl, Lib.hid ⟨h1, h2⟩, h3⟩
      have BW9 := below_alloc wr (.cells #[] 26)
      have SW9 : Rws (wr.alloc (.cells #[] 26)) 26 2 (.slice (some ⟨wr.heap.size, 0, none⟩) 0 0) [] := ⟨[], rfl, Sl.of_owns (ownsRow_empty wr 26 1) (Nat.zero_le _), fun j hj => absurd hj (Nat.not_lt_zero _)⟩
      go_upto_region 18 with (go_at_call 85; refine (PICK.out _ _ BW9 SW9).mono ?_; rintro e w8 ⟨up, ul, uc, rfl, HPU, hb8⟩; have HB8 : Hid (Below w2.heap.size w2 w8) := Lib.hid (HB27.out.trans ((BW9.trans (hb8.mono BW9.size)).mono HB27.out.size)); clear hb8)
      have s8 := HB8.out.size
      have HE8 : Hid (w8.heap[ob]? = some (.cells #[] 26 (0, 0))) := Lib.hid ((HB8.out.block _ HOB.out).trans HE2.out)
      have START : Hid (BqI w8 w8 ob w.heap.size (.slice (some ⟨ob, 0, none⟩) 0 0) [] []) := Lib.hid ⟨⟨Nat.le_refl _, fun _ _ _ => rfl⟩, rfl, ownsRow_below HO2.out HB8.out, fun j hj => absurd hj (Nat.not_lt_zero _), fun k hk => .inl (by simp [Value.ownBlock] at hk; exact hk.symm)⟩
      obtain ⟨LL, hLL⟩ : ∃ LL, LL = bbC g.length (ofG g) := ⟨_, rfl⟩
      have HLL : Hid (LL = bbC g.length (ofG g)) := Lib.hid hLL
      have HUL : Hid (ul = LL.length) := Lib.hid (by rw [hLL]; exact HPU.out.1)
      have HPR : Hid (Rws w8 26 2 (.slice up ul uc) (LL.map natInts)) := Lib.hid (by rw [hLL]; exact HPU.out.2)
      have hul : ul ≤ 65536 := by rw [HUL.out, hLL]; exact bbC_len hn16
      have HB08 : Hid (Below w.heap.size w w8) := Lib.hid (HB2.out.trans (HB8.out.mono s2))
      clear hLL HPU BW9 SW9 cg HO HB HB27
      go_wp2
      go_loopw [3, 11] (fun ov iv wr => ∃ (i : Nat) (vals : List Value), i ≤ ul ∧ iv = .int .i64 (i : Int) ∧ Hid (BqI w8 wr ob w.heap.size ov (ddpL [] (LL.take i)) vals) ∧ Hid (Below w.heap.size w wr)) (fun _ iv _ => ul - (intOf iv).toNat)
      case atStart => exact ⟨0, [], Nat.zero_le _, rfl, by first | exact START | exact Lib.hid (START.out.next (below_dN (Below.refl _ _) _)), by first | exact HB08 | exact Lib.hid (HB08.out.trans (below_dN (Below.refl _ _) _))⟩
      case round =>
        clear START HB08
        obtain ⟨i, vals, hi, rfl, HI, HB⟩ := hrel
        obtain ⟨OUT, hO⟩ : ∃ O, O = ddpL [] (LL.take i) := ⟨_, rfl⟩
        rw [← hO] at HI
        have hol : OUT.length ≤ 65536 := by
          have h1 := ddpL_le (LL.take i) []
          rw [List.length_take, List.length_nil] at h1
          rw [hO]
          omega
        obtain ⟨op, oc, hov⟩ := owns_shapeBa HI.out.own
        rw [hov] at HI ⊢
        clear hov
        by_cases hlt : i < ul
        · have hlL : i < LL.length := by rw [← HUL.out]; exact hlt
          obtain ⟨p, hpe⟩ : ∃ p, p = LL[i] := ⟨_, rfl⟩
          obtain ⟨pl, hpl⟩ : ∃ pl, pl = p.length := ⟨_, rfl⟩
          obtain ⟨ub, u0, pp, pq, rfl, HPC, HNP⟩ : ∃ b z pp pq, up = some ⟨b, z, none⟩ ∧ Hid (wr.cell? ⟨b, z + i, none⟩ = some (.slice pp pl pq)) ∧ Hid (Nums wr 2 .i64 (.slice pp pl pq) (natInts p)) := by
            obtain ⟨b, z, pp, pq, e1, e2, e3⟩ := HPR.out.get (k := i) (by rw [List.length_map]; exact hlL)
            have e4 : (LL.map natInts).getD i [] = natInts p := by rw [List.getD_eq_getElem?_getD, List.getElem?_eq_getElem (by rw [List.length_map]; exact hlL)]; simp [hpe]
            rw [e4, natInts_length, ← hpl] at e2 e3
            exact ⟨b, z, pp, pq, e1, Lib.hid (HI.out.kp.cell HE8.out e2), Lib.hid (HI.out.kp.nums HE8.out e3)⟩
          have HTK : Hid (ddpL [] (LL.take (i + 1)) = if p ∈ OUT then OUT else OUT ++ [p]) := Lib.hid (by rw [List.take_succ_eq_append_getElem hlL, ← hpe, ddpL_snoc, ← hO])
          have HPLN := Lib.hid hpl
          have HLI : Hid (LL.length ≤ 65536) := Lib.hid (by rw [← HUL.out]; exact hul)
          have hplen : pl ≤ 1000000000 := by have := HNP.out.shape; obtain ⟨_, _, _, _, _, h, _⟩ := this; rw [natInts_length] at h; rw [hpl]; exact h
          obtain ⟨wa, hwa⟩ : ∃ wa, wa = wr := ⟨_, rfl⟩
          rw [← hwa] at HI HB HPC HNP ⊢
          obtain ⟨m, hm⟩ : ∃ m, m = OUT.length := ⟨_, rfl⟩
          rw [← hm] at HI hol ⊢
          have HM := Lib.hid hm
          have sa := HB.out.size
          clear hO hpe hpl hlL hwa hm
          go_wp2
          go_loopw [12, 13] (fun bv kv wr => ∃ (k : Nat) (b : Bool), k ≤ m ∧ kv = .int .i64 (k : Int) ∧ bv = .bool b ∧ Hid (b = true ↔ p ∈ OUT.take k) ∧ Hid (Below wa.heap.size wa wr)) (fun _ kv _ => m - (intOf kv).toNat)
          case atStart => exact ⟨0, false, Nat.zero_le _, rfl, rfl, Lib.hid (by simp), Lib.hid (by first | exact Below.refl _ _ | exact below_dN (Below.refl _ _) _)⟩
          case round =>
            obtain ⟨k, b, hk, rfl, rfl, HBB, HBr⟩ := hrel
            have HIr := Lib.hid (HI.out.next HBr.out)
            have HBw : Hid (Below w.heap.size w wr) := Lib.hid (HB.out.trans (HBr.out.mono sa))
            have hpc := HBr.out.at' HPC.out
            by_cases hkm : k < m
            · have hkO : k < OUT.length := by rw [← HM.out]; exact hkm
              have HTS : Hid (OUT.take (k + 1) = OUT.take k ++ [OUT[k]]) := Lib.hid (List.take_succ_eq_append_getElem hkO)
              cases b with
              | true =>
                have HIN := Lib.hid (HBB.out.1 rfl)
                go_upto_region 25 with fail
                refine wp_region_held_drew (S := (fun w' => wr.heap.size ≤ w'.heap.size)) (by kernel_rfl) ?_ (fun hHeld => ?_)
                · exact Nat.le_refl _
                refine wpAnyH_take (i := 0) (v := .bool true) rfl (by kernel_rfl) (by kernel_rfl) (by kernel_rfl) (fun _ _ _ h => h) (Or.inl ⟨by rfl, ?_⟩) (by assumption) ?_
                · intro wz hSw; (try dsimp only at hSw); go_simp; try rfl
                try simp only [Act.put, List.getElem_toArray, List.getElem_cons_succ, List.getElem_cons_zero, List.setIfInBounds_toArray, List.set_cons_zero, List.set_cons_succ]
                refine wpAnyH_take (i := 1) (v := .bool true) rfl (by kernel_rfl) (by kernel_rfl) (by kernel_rfl) (fun _ _ _ h => h) (Or.inl ⟨by rfl, ?_⟩) (by assumption) ?_
                · intro wz hSw; (try dsimp only at hSw); go_simp; try rfl
                try simp only [Act.put, List.getElem_toArray, List.getElem_cons_succ, List.getElem_cons_zero, List.setIfInBounds_toArray, List.set_cons_zero, List.set_cons_succ]
                refine wpAnyH_take (i := 2) (v := undef) rfl (by kernel_rfl) (by kernel_rfl) (by kernel_rfl) (fun _ _ _ h => h) (Or.inr ⟨by kernel_rfl, rfl⟩) (by assumption) ?_
                try simp only [Act.put, List.getElem_toArray, List.getElem_cons_succ, List.getElem_cons_zero, List.setIfInBounds_toArray, List.set_cons_zero, List.set_cons_succ]
                refine wpAnyH_take (i := 3) (v := undef) rfl (by kernel_rfl) (by kernel_rfl) (by kernel_rfl) (fun _ _ _ h => h) (Or.inr ⟨by kernel_rfl, rfl⟩) (by assumption) ?_
                try simp only [Act.put, List.getElem_toArray, List.getElem_cons_succ, List.getElem_cons_zero, List.setIfInBounds_toArray, List.set_cons_zero, List.set_cons_succ]
                refine wpAnyH_take (i := 4) (v := undef) rfl (by kernel_rfl) (by kernel_rfl) (by kernel_rfl) (fun _ _ _ h => h) (Or.inr ⟨by kernel_rfl, rfl⟩) (by assumption) ?_
                try simp only [Act.put, List.getElem_toArray, List.getElem_cons_succ, List.getElem_cons_zero, List.setIfInBounds_toArray, List.set_cons_zero, List.set_cons_succ]
                refine wpAnyH_take (i := 5) (v := undef) rfl (by kernel_rfl) (by kernel_rfl) (by kernel_rfl) (fun _ _ _ h => h) (Or.inr ⟨by kernel_rfl, rfl⟩) (by assumption) ?_
                try simp only [Act.put, List.getElem_toArray, List.getElem_cons_succ, List.getElem_cons_zero, List.setIfInBounds_toArray, List.set_cons_zero, List.set_cons_succ]
                refine wpAnyH_take (i := 6) (v := undef) rfl (by kernel_rfl) (by kernel_rfl) (by kernel_rfl) (fun _ _ _ h => h) (Or.inr ⟨by kernel_rfl, rfl⟩) (by assumption) ?_
                try simp only [Act.put, List.getElem_toArray, List.getElem_cons_succ, List.getElem_cons_zero, List.setIfInBounds_toArray, List.set_cons_zero, List.set_cons_succ]
                refine wpAnyH_take (i := 7) (v := undef) rfl (by kernel_rfl) (by kernel_rfl) (by kernel_rfl) (fun _ _ _ h => h) (Or.inr ⟨by kernel_rfl, rfl⟩) (by assumption) ?_
                try simp only [Act.put, List.getElem_toArray, List.getElem_cons_succ, List.getElem_cons_zero, List.setIfInBounds_toArray, List.set_cons_zero, List.set_cons_succ]
                refine wpAnyH_take (i := 8) (v := undef) rfl (by kernel_rfl) (by kernel_rfl) (by kernel_rfl) (fun _ _ _ h => h) (Or.inr ⟨by kernel_rfl, rfl⟩) (by assumption) ?_
                try simp only [Act.put, List.getElem_toArray, List.getElem_cons_succ, List.getElem_cons_zero, List.setIfInBounds_toArray, List.set_cons_zero, List.set_cons_succ]
                refine wpAnyH_take (i := 9) (v := undef) rfl (by kernel_rfl) (by kernel_rfl) (by kernel_rfl) (fun _ _ _ h => h) (Or.inr ⟨by kernel_rfl, rfl⟩) (by assumption) ?_
                try simp only [Act.put, List.getElem_toArray, List.getElem_cons_succ, List.getElem_cons_zero, List.setIfInBounds_toArray, List.set_cons_zero, List.set_cons_succ]
                refine wpAnyH_take (i := 10) (v := undef) rfl (by kernel_rfl) (by kernel_rfl) (by kernel_rfl) (fun _ _ _ h => h) (Or.inr ⟨by kernel_rfl, rfl⟩) (by assumption) ?_
                try simp only [Act.put, List.getElem_toArray, List.getElem_cons_succ, List.getElem_cons_zero, List.setIfInBounds_toArray, List.set_cons_zero, List.set_cons_succ]
                refine wpAnyH_take (i := 11) (v := .bool true) rfl (by kernel_rfl) (by kernel_rfl) (by kernel_rfl) (fun _ _ _ h => h) (Or.inl ⟨by rfl, ?_⟩) (by assumption) ?_
                · intro wz hSw; (try dsimp only at hSw); go_simp; try rfl
                try simp only [Act.put, List.getElem_toArray, List.getElem_cons_succ, List.getElem_cons_zero, List.setIfInBounds_toArray, List.set_cons_zero, List.set_cons_succ]
                refine wpAnyH_ready (rs := [12]) (by kernel_rfl) (by simp) ?_
                refine AllReadyH.cons rfl (fun K hK => ?_) AllReadyH.nil
                go_simp
                refine hK.out _ _ ?_ (fun hHeld => ?_)
                · exact Nat.le_refl _
                clear hK K
                try simp only [Act.put, List.getElem_toArray, List.getElem_cons_succ, List.getElem_cons_zero, List.setIfInBounds_toArray, List.set_cons_zero, List.set_cons_succ]
                refine wpAnyH_done (by kernel_rfl) ?_ _
                go_wp2
                go_roundw
                case rel => exact ⟨k + 1, true, by omega, by go_num, rfl, Lib.hid (by rw [HTS.out]; exact ⟨fun _ => List.mem_append_left _ HIN.out, fun _ => rfl⟩), Lib.hid (HBr.out.trans (below_dN (Below.refl _ _) _))⟩
                case measure => simp [intOf]; omega
              | false =>
                have HNI : Hid (p ∉ OUT.take k) := Lib.hid (fun h => by have := HBB.out.2 h; cases this)
                obtain ⟨q, hq⟩ : ∃ q, q = OUT[k] := ⟨_, rfl⟩
                obtain ⟨xl, hxl⟩ : ∃ xl, xl = q.length := ⟨_, rfl⟩
                have HIr' := HIr.out
                obtain ⟨o1, xp, xq, rfl, hoc, HNX⟩ : ∃ b xp xq, op = some ⟨b, 0, none⟩ ∧ wr.cell? ⟨b, k, none⟩ = some (.slice xp xl xq) ∧ Hid (Nums wr 2 .i64 (.slice xp xl xq) (natInts q)) := by
                  obtain ⟨b, xp, xq, e1, e2, e3⟩ := HIr'.get hkO
                  have e4 : OUT.getD k [] = q := by rw [hq, List.getD_eq_getElem?_getD, List.getElem?_eq_getElem hkO]; rfl
                  rw [e4, ← hxl] at e2 e3
                  exact ⟨b, xp, xq, e1, e2, Lib.hid e3⟩
                have SAME : Hid (∀ wz, Below wr.heap.size wr wz → Calls Tryd.prog 86 #[.slice xp xl xq, .slice pp pl pq] wz fun e w' => e = .returned (.bool (dec (natInts q = natInts p))) ∧ Below wz.heap.size wz w') := Lib.hid fun wz hz => by
                  refine (l1Same_any _ _ (natInts q) (natInts p) wz (HNX.out.below hz) ((HNP.out.below HBr.out).below hz)).mono ?_
                  rintro e w' ⟨he, j, rfl⟩
                  exact ⟨he, below_dN (Below.refl _ _) _⟩
                have HQ := Lib.hid hq
                clear hq hxl HIr'
                by_cases hqp : q = p
                · have HD2 := Lib.hid (dec_true (congrArg natInts hqp))
                  have HQP := Lib.hid hqp
                  clear hqp
                  go_upto_region 25 with fail
                  refine wp_region_held_drew (S := (fun w' => w'.cell? ⟨o1, k, none⟩ = some (.slice xp xl xq) ∧ w'.cell? ⟨ub, u0 + i, none⟩ = some (.slice pp pl pq))) (by kernel_rfl) ?_ (fun hHeld => ?_)
                  · exact ⟨hoc, hpc⟩
                  refine wpAnyH_take (i := 0) (v := .bool false) rfl (by kernel_rfl) (by kernel_rfl) (by kernel_rfl) (fun _ _ _ h => h) (Or.inl ⟨by rfl, ?_⟩) (by assumption) ?_
                  · intro wz hSw; (try dsimp only at hSw); go_simp; try rfl
                  try simp only [Act.put, List.getElem_toArray, List.getElem_cons_succ, List.getElem_cons_zero, List.setIfInBounds_toArray, List.set_cons_zero, List.set_cons_succ]
                  refine wpAnyH_take (i := 1) (v := .bool false) rfl (by kernel_rfl) (by kernel_rfl) (by kernel_rfl) (fun _ _ _ h => h) (Or.inl ⟨by rfl, ?_⟩) (by assumption) ?_
                  · intro wz hSw; (try dsimp only at hSw); go_simp; try rfl
                  try simp only [Act.put, List.getElem_toArray, List.getElem_cons_succ, List.getElem_cons_zero, List.setIfInBounds_toArray, List.set_cons_zero, List.set_cons_succ]
                  refine wpAnyH_take (i := 2) (v := .slice (some ⟨o1, 0, none⟩) m oc) rfl (by kernel_rfl) (by kernel_rfl) (by kernel_rfl) (fun _ _ _ h => h) (Or.inl ⟨by rfl, ?_⟩) (by assumption) ?_
                  · intro wz hSw; (try dsimp only at hSw); go_simp; try rfl
                  try simp only [Act.put, List.getElem_toArray, List.getElem_cons_succ, List.getElem_cons_zero, List.setIfInBounds_toArray, List.set_cons_zero, List.set_cons_succ]
                  refine wpAnyH_take (i := 3) (v := .int .i64 (k : Int)) rfl (by kernel_rfl) (by kernel_rfl) (by kernel_rfl) (fun _ _ _ h => h) (Or.inl ⟨by rfl, ?_⟩) (by assumption) ?_
                  · intro wz hSw; (try dsimp only at hSw); go_simp; try rfl
                  try simp only [Act.put, List.getElem_toArray, List.getElem_cons_succ, List.getElem_cons_zero, List.setIfInBounds_toArray, List.set_cons_zero, List.set_cons_succ]
                  refine wpAnyH_take (i := 4) (v := .pointer (some ⟨o1, k, none⟩)) rfl (by kernel_rfl) (by kernel_rfl) (by kernel_rfl) (fun _ _ _ h => h) (Or.inl ⟨by rfl, ?_⟩) (by assumption) ?_
                  · intro wz hSw; (try dsimp only at hSw); go_simp; try rfl
                  try simp only [Act.put, List.getElem_toArray, List.getElem_cons_succ, List.getElem_cons_zero, List.setIfInBounds_toArray, List.set_cons_zero, List.set_cons_succ]
                  refine wpAnyH_take (i := 5) (v := .slice xp xl xq) rfl (by kernel_rfl) (by kernel_rfl) (by kernel_rfl) (fun _ _ _ h => h) (Or.inl ⟨by rfl, ?_⟩) (by assumption) ?_
                  · intro wz hSw; (try dsimp only at hSw); go_simp; try rfl
                  try simp only [Act.put, List.getElem_toArray, List.getElem_cons_succ, List.getElem_cons_zero, List.setIfInBounds_toArray, List.set_cons_zero, List.set_cons_succ]
                  refine wpAnyH_take (i := 6) (v := .slice (some ⟨ub, u0, none⟩) ul uc) rfl (by kernel_rfl) (by kernel_rfl) (by kernel_rfl) (fun _ _ _ h => h) (Or.inl ⟨by rfl, ?_⟩) (by assumption) ?_
                  · intro wz hSw; (try dsimp only at hSw); go_simp; try rfl
                  try simp only [Act.put, List.getElem_toArray, List.getElem_cons_succ, List.getElem_cons_zero, List.setIfInBounds_toArray, List.set_cons_zero, List.set_cons_succ]
                  refine wpAnyH_take (i := 7) (v := .int .i64 (i : Int)) rfl (by kernel_rfl) (by kernel_rfl) (by kernel_rfl) (fun _ _ _ h => h) (Or.inl ⟨by rfl, ?_⟩) (by assumption) ?_
                  · intro wz hSw; (try dsimp only at hSw); go_simp; try rfl
                  try simp only [Act.put, List.getElem_toArray, List.getElem_cons_succ, List.getElem_cons_zero, List.setIfInBounds_toArray, List.set_cons_zero, List.set_cons_succ]
                  refine wpAnyH_take (i := 8) (v := .pointer (some ⟨ub, u0 + i, none⟩)) rfl (by kernel_rfl) (by kernel_rfl) (by kernel_rfl) (fun _ _ _ h => h) (Or.inl ⟨by rfl, ?_⟩) (by assumption) ?_
                  · intro wz hSw; (try dsimp only at hSw); go_simp; try rfl
                  try simp only [Act.put, List.getElem_toArray, List.getElem_cons_succ, List.getElem_cons_zero, List.setIfInBounds_toArray, List.set_cons_zero, List.set_cons_succ]
                  refine wpAnyH_take (i := 9) (v := .slice pp pl pq) rfl (by kernel_rfl) (by kernel_rfl) (by kernel_rfl) (fun _ _ _ h => h) (Or.inl ⟨by rfl, ?_⟩) (by assumption) ?_
                  · intro wz hSw; (try dsimp only at hSw); go_simp; try rfl
                  try simp only [Act.put, List.getElem_toArray, List.getElem_cons_succ, List.getElem_cons_zero, List.setIfInBounds_toArray, List.set_cons_zero, List.set_cons_succ]
                  refine wpAnyH_ready (rs := [10]) (by kernel_rfl) (by simp) ?_
                  refine AllReadyH.cons rfl (fun K hK => ?_) AllReadyH.nil
                  go_simp
                  go_at_call 86
                  refine (SAME.out _ (below_dN (Below.refl _ _) 1)).mono ?_
                  rintro e w8 ⟨he, hb8⟩
                  rw [HD2.out] at he
                  subst he
                  have BW8 : Below wr.heap.size wr w8 := (below_dN (Below.refl _ _) 1).trans hb8
                  clear hb8
                  refine hK.out _ _ ?_ (fun hHeld => ?_)
                  · exact ⟨BW8.at' hoc, BW8.at' hpc⟩
                  clear hK K
                  try simp only [Act.put, List.getElem_toArray, List.getElem_cons_succ, List.getElem_cons_zero, List.setIfInBounds_toArray, List.set_cons_zero, List.set_cons_succ]
                  refine wpAnyH_take (i := 11) (v := .bool true) rfl (by kernel_rfl) (by kernel_rfl) (by kernel_rfl) (fun _ _ _ h => h) (Or.inl ⟨by rfl, ?_⟩) (by assumption) ?_
                  · intro wz hSw; (try dsimp only at hSw); go_simp; try rfl
                  try simp only [Act.put, List.getElem_toArray, List.getElem_cons_succ, List.getElem_cons_zero, List.setIfInBounds_toArray, List.set_cons_zero, List.set_cons_succ]
                  refine wpAnyH_ready (rs := [12]) (by kernel_rfl) (by simp) ?_
                  refine AllReadyH.cons rfl (fun K hK => ?_) AllReadyH.nil
                  go_simp
                  refine hK.out _ _ ?_ (fun hHeld => ?_)
                  · exact ⟨BW8.at' hoc, BW8.at' hpc⟩
                  clear hK K
                  try simp only [Act.put, List.getElem_toArray, List.getElem_cons_succ, List.getElem_cons_zero, List.setIfInBounds_toArray, List.set_cons_zero, List.set_cons_succ]
                  refine wpAnyH_done (by kernel_rfl) ?_ _
                  go_wp2
                  go_roundw
                  case rel => exact ⟨k + 1, true, by omega, by go_num, rfl, Lib.hid (by rw [HTS.out]; exact ⟨fun _ => List.mem_append_right _ (by rw [← HQ.out, HQP.out]; exact List.mem_singleton_self _), fun _ => rfl⟩), Lib.hid (HBr.out.trans (BW8.mono HBr.out.size))⟩
                  case measure => simp [intOf]; omega
                · have HD2 := Lib.hid (dec_false (fun h => hqp (natInts_injBe h)))
                  have HQP := Lib.hid hqp
                  clear hqp
                  go_upto_region 25 with fail
                  refine wp_region_held_drew (S := (fun w' => w'.cell? ⟨o1, k, none⟩ = some (.slice xp xl xq) ∧ w'.cell? ⟨ub, u0 + i, none⟩ = some (.slice pp pl pq))) (by kernel_rfl) ?_ (fun hHeld => ?_)
                  · exact ⟨hoc, hpc⟩
                  refine wpAnyH_take (i := 0) (v := .bool false) rfl (by kernel_rfl) (by kernel_rfl) (by kernel_rfl) (fun _ _ _ h => h) (Or.inl ⟨by rfl, ?_⟩) (by assumption) ?_
                  · intro wz hSw; (try dsimp only at hSw); go_simp; try rfl
                  try simp only [Act.put, List.getElem_toArray, List.getElem_cons_succ, List.getElem_cons_zero, List.setIfInBounds_toArray, List.set_cons_zero, List.set_cons_succ]
                  refine wpAnyH_take (i := 1) (v := .bool false) rfl (by kernel_rfl) (by kernel_rfl) (by kernel_rfl) (fun _ _ _ h => h) (Or.inl ⟨by rfl, ?_⟩) (by assumption) ?_
                  · intro wz hSw; (try dsimp only at hSw); go_simp; try rfl
                  try simp only [Act.put, List.getElem_toArray, List.getElem_cons_succ, List.getElem_cons_zero, List.setIfInBounds_toArray, List.set_cons_zero, List.set_cons_succ]
                  refine wpAnyH_take (i := 2) (v := .slice (some ⟨o1, 0, none⟩) m oc) rfl (by kernel_rfl) (by kernel_rfl) (by kernel_rfl) (fun _ _ _ h => h) (Or.inl ⟨by rfl, ?_⟩) (by assumption) ?_
                  · intro wz hSw; (try dsimp only at hSw); go_simp; try rfl
                  try simp only [Act.put, List.getElem_toArray, List.getElem_cons_succ, List.getElem_cons_zero, List.setIfInBounds_toArray, List.set_cons_zero, List.set_cons_succ]
                  refine wpAnyH_take (i := 3) (v := .int .i64 (k : Int)) rfl (by kernel_rfl) (by kernel_rfl) (by kernel_rfl) (fun _ _ _ h => h) (Or.inl ⟨by rfl, ?_⟩) (by assumption) ?_
                  · intro wz hSw; (try dsimp only at hSw); go_simp; try rfl
                  try simp only [Act.put, List.getElem_toArray, List.getElem_cons_succ, List.getElem_cons_zero, List.setIfInBounds_toArray, List.set_cons_zero, List.set_cons_succ]
                  refine wpAnyH_take (i := 4) (v := .pointer (some ⟨o1, k, none⟩)) rfl (by kernel_rfl) (by kernel_rfl) (by kernel_rfl) (fun _ _ _ h => h) (Or.inl ⟨by rfl, ?_⟩) (by assumption) ?_
                  · intro wz hSw; (try dsimp only at hSw); go_simp; try rfl
                  try simp only [Act.put, List.getElem_toArray, List.getElem_cons_succ, List.getElem_cons_zero, List.setIfInBounds_toArray, List.set_cons_zero, List.set_cons_succ]
                  refine wpAnyH_take (i := 5) (v := .slice xp xl xq) rfl (by kernel_rfl) (by kernel_rfl) (by kernel_rfl) (fun _ _ _ h => h) (Or.inl ⟨by rfl, ?_⟩) (by assumption) ?_
                  · intro wz hSw; (try dsimp only at hSw); go_simp; try rfl
                  try simp only [Act.put, List.getElem_toArray, List.getElem_cons_succ, List.getElem_cons_zero, List.setIfInBounds_toArray, List.set_cons_zero, List.set_cons_succ]
                  refine wpAnyH_take (i := 6) (v := .slice (some ⟨ub, u0, none⟩) ul uc) rfl (by kernel_rfl) (by kernel_rfl) (by kernel_rfl) (fun _ _ _ h => h) (Or.inl ⟨by rfl, ?_⟩) (by assumption) ?_
                  · intro wz hSw; (try dsimp only at hSw); go_simp; try rfl
                  try simp only [Act.put, List.getElem_toArray, List.getElem_cons_succ, List.getElem_cons_zero, List.setIfInBounds_toArray, List.set_cons_zero, List.set_cons_succ]
                  refine wpAnyH_take (i := 7) (v := .int .i64 (i : Int)) rfl (by kernel_rfl) (by kernel_rfl) (by kernel_rfl) (fun _ _ _ h => h) (Or.inl ⟨by rfl, ?_⟩) (by assumption) ?_
                  · intro wz hSw; (try dsimp only at hSw); go_simp; try rfl
                  try simp only [Act.put, List.getElem_toArray, List.getElem_cons_succ, List.getElem_cons_zero, List.setIfInBounds_toArray, List.set_cons_zero, List.set_cons_succ]
                  refine wpAnyH_take (i := 8) (v := .pointer (some ⟨ub, u0 + i, none⟩)) rfl (by kernel_rfl) (by kernel_rfl) (by kernel_rfl) (fun _ _ _ h => h) (Or.inl ⟨by rfl, ?_⟩) (by assumption) ?_
                  · intro wz hSw; (try dsimp only at hSw); go_simp; try rfl
                  try simp only [Act.put, List.getElem_toArray, List.getElem_cons_succ, List.getElem_cons_zero, List.setIfInBounds_toArray, List.set_cons_zero, List.set_cons_succ]
                  refine wpAnyH_take (i := 9) (v := .slice pp pl pq) rfl (by kernel_rfl) (by kernel_rfl) (by kernel_rfl) (fun _ _ _ h => h) (Or.inl ⟨by rfl, ?_⟩) (by assumption) ?_
                  · intro wz hSw; (try dsimp only at hSw); go_simp; try rfl
                  try simp only [Act.put, List.getElem_toArray, List.getElem_cons_succ, List.getElem_cons_zero, List.setIfInBounds_toArray, List.set_cons_zero, List.set_cons_succ]
                  refine wpAnyH_ready (rs := [10]) (by kernel_rfl) (by simp) ?_
                  refine AllReadyH.cons rfl (fun K hK => ?_) AllReadyH.nil
                  go_simp
                  go_at_call 86
                  refine (SAME.out _ (below_dN (Below.refl _ _) 1)).mono ?_
                  rintro e w8 ⟨he, hb8⟩
                  rw [HD2.out] at he
                  subst he
                  have BW8 : Below wr.heap.size wr w8 := (below_dN (Below.refl _ _) 1).trans hb8
                  clear hb8
                  refine hK.out _ _ ?_ (fun hHeld => ?_)
                  · exact ⟨BW8.at' hoc, BW8.at' hpc⟩
                  clear hK K
                  try simp only [Act.put, List.getElem_toArray, List.getElem_cons_succ, List.getElem_cons_zero, List.setIfInBounds_toArray, List.set_cons_zero, List.set_cons_succ]
                  refine wpAnyH_take (i := 11) (v := .bool false) rfl (by kernel_rfl) (by kernel_rfl) (by kernel_rfl) (fun _ _ _ h => h) (Or.inl ⟨by rfl, ?_⟩) (by assumption) ?_
                  · intro wz hSw; (try dsimp only at hSw); go_simp; try rfl
                  try simp only [Act.put, List.getElem_toArray, List.getElem_cons_succ, List.getElem_cons_zero, List.setIfInBounds_toArray, List.set_cons_zero, List.set_cons_succ]
                  refine wpAnyH_ready (rs := [12]) (by kernel_rfl) (by simp) ?_
                  refine AllReadyH.cons rfl (fun K hK => ?_) AllReadyH.nil
                  go_simp
                  refine hK.out _ _ ?_ (fun hHeld => ?_)
                  · exact ⟨BW8.at' hoc, BW8.at' hpc⟩
                  clear hK K
                  try simp only [Act.put, List.getElem_toArray, List.getElem_cons_succ, List.getElem_cons_zero, List.setIfInBounds_toArray, List.set_cons_zero, List.set_cons_succ]
                  refine wpAnyH_done (by kernel_rfl) ?_ _
                  go_wp2
                  go_roundw
                  case rel => exact ⟨k + 1, false, by omega, by go_num, rfl, Lib.hid (by
                    rw [HTS.out]
                    refine ⟨fun h => (by cases h), fun h => ?_⟩
                    rcases List.mem_append.1 h with h | h
                    · exact absurd h HNI.out
                    · rw [List.mem_singleton, ← HQ.out] at h
                      exact absurd h.symm HQP.out), Lib.hid (HBr.out.trans (BW8.mono HBr.out.size))⟩
                  case measure => simp [intOf]; omega
            · obtain rfl : k = m := by omega
              have HBB2 : Hid (b = true ↔ p ∈ OUT) := Lib.hid (by have := HBB.out; rw [HM.out, List.take_length] at this; exact this)
              cases b with
              | true =>
                have HIN : Hid (p ∈ OUT) := Lib.hid (HBB2.out.1 rfl)
                go_wp2
                go_roundw
                case rel => exact ⟨i + 1, vals, by omega, by go_num, by rw [HTK.out, if_pos HIN.out]; exact HIr, HBw⟩
                case measure => simp [intOf]; omega
              | false =>
                have HIN : Hid (p ∉ OUT) := Lib.hid (fun h => by have := HBB2.out.2 h; cases this)
                have hk9 : k < 1000000000 := by omega
                have hsw : w.heap.size ≤ wr.heap.size := HBw.out.size
                have HOWN : Hid (wr.ownsRow w.heap.size 26 1 (.slice op k oc) k vals) := Lib.hid (by have := HIr.out.own; rw [← HM.out] at this; exact this)
                have COPY : Hid (Calls Tryd.prog 87 #[.slice pp pl pq] wr fun e w' => ∃ (cp : Option Addr) (cl cc : Nat), e = .returned (.slice cp cl cc) ∧ Hid (Nums w' 2 .i64 (.slice cp cl cc) (natInts p)) ∧ Below wr.heap.size wr w') := Lib.hid (by
                  refine (l1Copy_any _ pl ((natInts p).map (Value.int .i64)) (oneCell_ints .i64 _) (by rw [List.length_map, natInts_length, HPLN.out]) wr (by have := HNP.out.below HBr.out; unfold Nums at this; rw [natInts_length, ← HPLN.out] at this; exact this)).mono ?_
                  rintro e w' ⟨u, rfl, h1, h2⟩
                  obtain ⟨cp, cc, rfl⟩ := owns_shapeBa h1
                  exact ⟨cp, _, cc, rfl, Lib.hid (Nums.of_owns h1 (by rw [natInts_length]; exact HPLN.out) hplen), h2⟩)
                go_wp2_with (first
                  | (at_builtin; refine wpList_app1 ty_rowsBe rfl rfl rfl (ownsRow_below HOWN.out HB9.out) rfl rfl hk9 (Nat.le_trans hsw HB9.out.size) ?_; intro v' w10 hown10 hg10 hs10; have HI10 : Hid (∃ vals', BqI w8 w10 ob w.heap.size v' (OUT ++ [p]) vals') := Lib.hid ⟨_, (HIr.out.next HB9.out).push HN9.out (by rw [← HM.out]; exact hown10) hg10 hs10⟩; have HB10 : Hid (Below w.heap.size w w10) := Lib.hid (below_grown (HBw.out.trans (HB9.out.mono hsw)) (ownsRow_below HOWN.out HB9.out) hg10 (Nat.le_refl _) (Nat.le_trans hsw HB9.out.size)); clear hown10 hg10 hs10)
                  | (go_at_call 87; refine COPY.out.mono ?_; rintro e w9 ⟨u91, u92, u93, rfl, HN9, hb9⟩; have HB9 := Lib.hid hb9; clear hb9))
                obtain ⟨vals', hI10⟩ := HI10.out
                go_roundw
                case rel => exact ⟨i + 1, vals', by omega, by go_num, by rw [HTK.out, if_neg HIN.out]; exact Lib.hid hI10, HB10⟩
                case measure => simp [intOf]; omega
        · obtain rfl : i = ul := by omega
          have HOO : Hid (OUT = bbL g.length (ofG g)) := Lib.hid (by rw [hO, HUL.out, List.take_length, HLL.out, bbL_eq])
          clear hO
          go_wp2
          go_ret
          refine ⟨_, _, rfl, .inl ⟨HOK.out, rfl⟩, ?_, ?_, ?_, HB.out⟩
          · rw [← HOO.out]; exact HI.out.sg
          · rw [List.length_map]; exact bbL_len hn16
          · exact bbL_row hn16

end Go.Proofs.YtiooindlpinjhaaDoor
