/- Walk: the reference's parts (l3Parts, PartsOf). -/
import Derived.Test.YtiooindlpinjhaaDoorBbQ32
import Derived.Test.YtiooindlpinjhaaDoorBbQ35
import Derived.Test.YtiooindlpinjhaaDoorBbQ33
import Derived.Test.YtiooindlpinjhaaDoorBbQ12
import Derived.Deep.DeepCutAuto
import Derived.Deep.RegionHeld3
namespace Go.Proofs.YtiooindlpinjhaaDoor
open Go.RowKit

theorem natInts_appP (a b : List Nat) : natInts (a ++ b) = natInts a ++ natInts b := by simp [natInts]
/-- The parts so far, each in a block of its own; what is done, in another. -/
structure PqW (W0 wr : World) (B : Nat) (gv : Value) (E : Nat → Nat → Bool) (L : List Nat) (o d : Value) (ps : List (List Nat)) (D G : List Nat) (k : Nat) (vals : List Value) : Prop where
  pa : PaI E L ps G k
  eqv : ∀ x, x ∈ D ↔ x ∈ G
  len : D.length ≤ k * 16
  vl : vals.length = ps.length
  out : wr.ownsRow B 26 1 o ps.length vals
  rows : ∀ j, j < ps.length → wr.ownsRow B 2 1 (vals.getD j undef) (ps.getD j []).length ((natInts (ps.getD j [])).map (Value.int .i64)) ∧ ∀ b, (vals.getD j undef).ownBlock = some b → d.ownBlock ≠ some b
  dn : wr.ownsRow B 2 1 d D.length ((natInts D).map (Value.int .i64))
  bel : Below W0.heap.size W0 wr
  box : Box wr W0.heap.size 28 gv
  hB : W0.heap.size < B
  hB2 : B ≤ wr.heap.size
theorem PqW.next {W0 wr wx : World} {B : Nat} {gv : Value} {E : Nat → Nat → Bool} {L : List Nat} {o d : Value} {ps : List (List Nat)} {D G : List Nat} {k : Nat} {vals : List Value} (h : PqW W0 wr B gv E L o d ps D G k vals) (hb : Below wr.heap.size wr wx) : PqW W0 wx B gv E L o d ps D G k vals :=
  ⟨h.pa, h.eqv, h.len, h.vl, ownsRow_below h.out hb, fun j hj => ⟨ownsRow_below (h.rows j hj).1 hb, (h.rows j hj).2⟩, ownsRow_below h.dn hb, h.bel.trans (hb.mono h.bel.size), h.box.keep hb, h.hB, Nat.le_trans h.hB2 hb.size⟩
theorem PqW.skip {W0 wr : World} {B : Nat} {gv : Value} {E : Nat → Nat → Bool} {L : List Nat} {o d : Value} {ps : List (List Nat)} {D G : List Nat} {k : Nat} {vals : List Value} (h : PqW W0 wr B gv E L o d ps D G k vals) (hi : k < L.length) (hd : L[k] ∈ D) : PqW W0 wr B gv E L o d ps D G (k + 1) vals :=
  ⟨h.pa.skip hi ((h.eqv _).1 hd), h.eqv, by have := h.len; omega, h.vl, h.out, h.rows, h.dn, h.bel, h.box, h.hB, h.hB2⟩
/-- A part is put behind the others (its row), then its vertices behind what is done. -/
theorem PqW.take {W0 wr w5 w7 w8 : World} {B : Nat} {gv : Value} {E : Nat → Nat → Bool} (hE : ∀ r j, E r j = true → E j r = true) {L : List Nat} (hL : L.Pairwise (· < ·)) (hL16 : L.length ≤ 16) {o d o' d' pv : Value} {ps : List (List Nat)} {D G : List Nat} {k y : Nat} {vals : List Value}
    (h : PqW W0 wr B gv E L o d ps D G k vals) (hk : k < L.length) (hy : L[k]'hk = y) (hd : y ∉ D) (hb : Below wr.heap.size wr w5)
    (hp : w5.ownsRow wr.heap.size 2 1 pv (partL E L y).length ((natInts (partL E L y)).map (Value.int .i64)))
    (ho : w7.ownsRow B 26 1 o' (ps.length + 1) (vals ++ [pv])) (hg : w5.grownBy w7 o.ownBlock)
    (ho8 : w8.ownsRow B 2 1 d' (D.length + (partL E L y).length) ((natInts D).map (Value.int .i64) ++ (natInts (partL E L y)).map (Value.int .i64))) (hg8 : w7.grownBy w8 d.ownBlock)
    (hnew : ∀ b, d'.ownBlock = some b → d.ownBlock = some b ∨ w7.heap.size ≤ b) :
    PqW W0 w8 B gv E L o' d' (ps ++ [partL E L y]) (D ++ partL E L y) (L.filter fun x => decide (x ∈ G ∨ x ∈ partL E L y)) (k + 1) (vals ++ [pv]) := by
  subst hy
  have h5 := h.next hb
  have hs5 := hb.size
  have hs7 := hg.size
  have hpw7 := ownsRow_other hp h5.out hg (by decide)
  have hdb : ∀ b, pv.ownBlock = some b → d.ownBlock ≠ some b := fun b hb1 hb2 => by
    have h1 := (hp.lt b hb1).1
    have h2 := (h.dn.lt b hb2).2
    omega
  have keep : ∀ (v : Value) (n : Nat) (xs : List Value) (base : Nat), w5.ownsRow base 2 1 v n xs → (∀ b, v.ownBlock = some b → d.ownBlock ≠ some b) → w8.ownsRow base 2 1 v n xs := fun v n xs base hv hne =>
    (ownsRow_other hv h5.out hg (by decide)).kept hg8 (by
      cases hvb : v.ownBlock with
      | none => exact .inl rfl
      | some b => exact .inr fun e => hne b hvb e.symm)
  have newd : ∀ (v : Value) (n : Nat) (xs : List Value) (base : Nat), w5.ownsRow base 2 1 v n xs → (∀ b, v.ownBlock = some b → d.ownBlock ≠ some b) → ∀ b, v.ownBlock = some b → d'.ownBlock ≠ some b := fun v n xs base hv hne b hb1 hb2 => by
    rcases hnew b hb2 with h1 | h1
    · exact hne b hb1 h1
    · have := (hv.lt b hb1).2
      omega
  refine ⟨h.pa.take hE hL hk (fun hm => hd ((h.eqv _).2 hm)) (List.Pairwise.filter _ hL) (fun x => ?_), fun x => ?_, ?_, by simp [h.vl], ?_, fun j hj => ?_, ?_, ?_, ?_, h.hB, ?_⟩
  · rw [List.mem_filter, decide_eq_true_eq]
    constructor
    · exact fun hx => hx.2
    · intro hx
      refine ⟨hx.elim (h.pa.sub x) fun hx => (mem_partL.1 hx).1, hx⟩
  · rw [List.mem_append, List.mem_filter, decide_eq_true_eq, h.eqv]
    constructor
    · intro hx
      exact ⟨hx.elim (h.pa.sub x) fun hx => (mem_partL.1 hx).1, hx⟩
    · exact fun hx => hx.2
  · have h1 := h.len
    have h2 := partL_length E L L[k]
    rw [List.length_append]
    omega
  · rw [List.length_append]
    exact ownsRow_other ho (E := 26) (ownsRow_other h5.dn h5.out hg (by decide)) hg8 (by decide)
  · rw [List.length_append, List.length_singleton] at hj
    by_cases hjl : j < ps.length
    · have e1 : (vals ++ [pv]).getD j undef = vals.getD j undef := by
        rw [List.getD_eq_getElem?_getD, List.getD_eq_getElem?_getD, List.getElem?_append_left (by rw [h.vl]; exact hjl)]
      have e2 : (ps ++ [partL E L L[k]]).getD j [] = ps.getD j [] := by
        rw [List.getD_eq_getElem?_getD, List.getD_eq_getElem?_getD, List.getElem?_append_left hjl]
      rw [e1, e2]
      have := h5.rows j hjl
      exact ⟨keep _ _ _ _ this.1 this.2, newd _ _ _ _ this.1 this.2⟩
    · obtain rfl : j = ps.length := by omega
      have e1 : (vals ++ [pv]).getD ps.length undef = pv := by
        rw [← h.vl]; simp
      have e2 : (ps ++ [partL E L L[k]]).getD ps.length [] = partL E L L[k] := by simp
      rw [e1, e2]
      exact ⟨ownsRow_base (keep _ _ _ _ hp hdb) h.hB2, newd _ _ _ _ hp hdb⟩
  · rw [List.length_append, natInts_appP, List.map_append]
    exact ho8
  · have h7 := below_grown h5.bel h5.out hg (by have := h.hB; omega) h5.bel.size
    exact below_grown h7 (ownsRow_other h5.dn h5.out hg (by decide)) hg8 (by have := h.hB; omega) h7.size
  · refine (h5.box.grown hg fun e => ?_).grown hg8 fun e => ?_
    · have := (h5.out.lt _ e.symm).1
      have := h.hB
      omega
    · have := (h.dn.lt _ e.symm).1
      have := h.hB
      omega
  · have := h5.hB2
    have := hg8.size
    omega

set_option maxRecDepth 100000 in
set_option maxHeartbeats 4000000 in
theorem l3Parts_any (v lv : Value) (g : List (List Int)) (L : List Nat) (hok : GOk g) (hL16 : L.length ≤ 16) (hL : L.Pairwise (· < ·)) (hLn : ∀ x ∈ L, x < g.length) (w : World) (hg : Gr w v g) (hl : Nums w 2 .i64 lv (natInts L)) :
    Calls Tryd.prog 84 #[v, lv] w fun e w' => ∃ (r : Value) (ps : List (List Nat)), e = .returned r ∧ Parts (ofG g) L ps ∧ SG w' w.heap.size (.agg #[r]) (ps.map natInts) ∧ ps.length ≤ 16 ∧ (∀ l ∈ ps, l.Pairwise (· < ·) ∧ ∀ x ∈ l, x ∈ L) ∧ Below w.heap.size w w' := by
  obtain ⟨lp, lc, rfl, _⟩ := id hl.shape
  have hg0 := hg
  obtain ⟨g0, rfl, hr⟩ := hg
  obtain ⟨p, c, rfl, _⟩ := hr.shape
  have HG := Lib.hid hg0
  clear hr hg0
  have HN := Lib.hid hl
  have HLN := Lib.hid hLn
  have HOK := Lib.hid hok
  have HSY := Lib.hid (ofG_sym hok)
  clear hl hLn hok
  go_enter Tryd.func84, Tryd.ntmps84
  go_wp2
  go_loopw [5, 6, 7] (fun o d i wr => ∃ ps D G k vals, k ≤ L.length ∧ i = .int .i64 k ∧ PqW w wr (w.heap.size + 1) (.slice p g.length c) (ofG g) L o d ps D G k vals) (fun _ _ i _ => L.length - (intOf i).toNat)
  case atStart =>
    have s1 : (w.alloc (.cells #[.slice p g.length c] 28)).heap.size = w.heap.size + 1 := by show (w.heap.push _).size = _; simp
    have s2 : ((w.alloc (.cells #[.slice p g.length c] 28)).alloc (.cells #[] 26)).heap.size = w.heap.size + 1 + 1 := by show (Array.push _ _).size = _; rw [Array.size_push, s1]
    refine ⟨[], [], [], 0, [], Nat.zero_le _, rfl, PaI.start' _ _, fun x => Iff.rfl, by simp, rfl, ?_, fun j hj => by simp at hj, ?_, ?_, ?_, by omega, ?_⟩
    · exact ownsRow_below (ownsRow_empty' w _ _ _ _ (Nat.le_refl _)) (below_alloc _ _)
    · have := ownsRow_empty ((w.alloc (.cells #[.slice p g.length c] 28)).alloc (.cells #[] 26)) 2 1
      rw [s2] at this
      exact ownsRow_base this (by omega)
    · exact ((below_alloc w _).alloc (below_alloc w _).size _).alloc (by omega) _
    · exact ((Box.new w _ 28).alloc _).alloc _
    · rw [size_alloc, s2]; omega
  case round =>
    obtain ⟨ps, D, G, k, vals, hk, rfl, hI⟩ := hrel
    obtain ⟨op, oc, rfl⟩ := owns_shapeR hI.out
    obtain ⟨dp, dc, rfl⟩ := owns_shapeR hI.dn
    have hbel := hI.bel
    have hsz := hbel.size
    have HN1 := HN.out.below hbel
    have hlL : (natInts L).length = L.length := natInts_length L
    rw [hlL] at HN1 ⊢
    have HI := Lib.hid hI
    by_cases hlt : k < L.length
    · obtain ⟨lb, lo, rfl, hlc⟩ := HN1.get (k := k) (by rw [natInts_length]; exact hlt)
      rw [natInts_atQ hlt] at hlc
      have hmemL : L[k]'hlt ∈ L := List.getElem_mem hlt
      have HLT := Lib.hid hlt
      have HN2 := Lib.hid HN1
      have HB := Lib.hid hbel
      have HDN : Hid (Nums wr 2 .i64 (.slice dp D.length dc) (natInts D)) := Lib.hid (Nums.of_owns hI.dn (by rw [natInts_length]) (by have := hI.len; omega))
      generalize hy : L[k]'hlt = y at hlc hmemL
      have HY := Lib.hid hy
      have HML := Lib.hid hmemL
      clear hy hI HN1 hmemL hbel hlL
      by_cases hin : y ∈ D
      · have hd : dec ((y : Int) ∈ natInts D) = true := dec_true (mem_natInts.2 ⟨y, hin, rfl⟩)
        have HIN := Lib.hid hin
        clear hin
        go_wp2_with (go_at_call 72; refine (l1Has_any _ (natInts D) _ _ HDN.out).mono ?_; rintro e w4 ⟨he4, rfl⟩; rw [hd] at he4; subst he4)
        go_roundw
        case rel => exact ⟨ps, D, G, k + 1, vals, by omega, by go_num, HI.out.skip hlt (by rw [HY.out]; exact HIN.out)⟩
        case measure => simp [intOf]; omega
      · have hd : dec ((y : Int) ∈ natInts D) = false := dec_false (new_nat hin)
        have HIN := Lib.hid hin
        clear hin
        have hxc := HI.out.box.cell
        go_upto_region 7 with (go_at_call 72; refine (l1Has_any _ (natInts D) _ _ HDN.out).mono ?_; rintro e w4 ⟨he4, rfl⟩; rw [hd] at he4; subst he4)
        go_cut [8] (fun s wx => wx.ownsRow wr.heap.size 2 1 s (partL (ofG g) L y).length ((natInts (partL (ofG g) L y)).map (Value.int .i64)) ∧ Below wr.heap.size wr wx)
        case first =>
          go_region_held3 (fun w' => w'.cell? ⟨w.heap.size, 0, none⟩ = some (.slice p g.length c) ∧ w'.cell? ⟨lb, lo + k, none⟩ = some (.int .i64 y))
            (first | go_keep | exact ⟨hxc, hlc⟩ | exact ⟨BWA.at' hxc, BWA.at' hlc⟩)
            (first | (go_at_call 134; refine (l3Part_any _ _ _ g L y rfl HOK.out hL HLN.out HML.out _ (HG.out.below (HB.out.trans (below_dN (Below.refl _ _) 1))) (HN2.out.below (below_dN (Below.refl _ _) 1))).mono ?_; rintro e w5 ⟨pv, rfl, hp5, hb5⟩; have HP5 := Lib.hid (ownsRow_base (base' := wr.heap.size) hp5 (below_dN (Below.refl wr.heap.size wr) 1).size); have BWA : Below wr.heap.size wr w5 := (below_dN (Below.refl _ _) 1).trans hb5; clear hp5 hb5))
          all_goals go_wp2
          all_goals go_meet
          all_goals exact ⟨HP5.out, BWA⟩
        case rest =>
          obtain ⟨hp5, hb5⟩ := hcut
          obtain ⟨pp, pc, rfl⟩ := owns_shapeR hp5
          have HP5 := Lib.hid hp5
          have HB5 := Lib.hid hb5
          have H5 := Lib.hid (HI.out.next hb5)
          have hpl := HI.out.pa.len
          have hplen := partL_length (ofG g) L y
          have hdl := HI.out.len
          clear hp5 hb5 hxc hlc
          go_wp2_with (first
            | (at_builtin; refine wpList_app ty_i64 rfl rfl rfl HD7.out rfl HP7.out (by rw [List.length_map, natInts_length, Nat.mul_one]) (oneCell_ints _ _) (by omega) HS7.out ?_; intro d8 w8 hown8 hg8 hnew8)
            | (at_builtin; refine wpList_app1s ty_rows64 rfl rfl rfl H5.out.out rfl rfl (by omega) H5.out.hB2 ?_; intro b7 c7 w7 hown7 hg7 hb7; have HD7 := Lib.hid (ownsRow_other H5.out.dn H5.out.out hg7 (by decide)); have HP7 := Lib.hid (Sl.of_owns (ownsRow_other HP5.out H5.out.out hg7 (by decide)) (by omega)); have HS7 : Hid (w.heap.size + 1 ≤ w7.heap.size) := Lib.hid (Nat.le_trans H5.out.hB2 hg7.size)))
          go_roundw
          case rel => exact ⟨_, _, _, k + 1, _, by omega, by go_num, HI.out.take HSY.out hL hL16 HLT.out HY.out HIN.out HB5.out HP5.out hown7 hg7 hown8 hg8 hnew8⟩
          case measure => simp [intOf]; omega
    · obtain rfl : k = L.length := by omega
      go_wp2
      go_ret
      refine ⟨_, ps, rfl, HI.out.pa.done, ⟨_, vals, rfl, by rw [List.length_map]; exact HI.out.vl, by rw [List.length_map]; exact ownsRow_base HI.out.out (by omega), fun j hj => ?_⟩, Nat.le_trans HI.out.pa.len hL16, HI.out.pa.all, hbel⟩
      rw [List.length_map] at hj
      have h1 := (HI.out.rows j hj).1
      have e : row (ps.map natInts) j = natInts (ps.getD j []) := by simp [row, hj]
      rw [e]
      refine Nums.of_owns h1 (by rw [natInts_length]) ?_
      have h2 : ps.getD j [] = ps[j] := by simp [hj]
      have h3 := HI.out.pa.all ps[j] (List.getElem_mem hj)
      rw [h2]
      have := rising_sub_len hL h3.1 h3.2
      omega

end Go.Proofs.YtiooindlpinjhaaDoor
