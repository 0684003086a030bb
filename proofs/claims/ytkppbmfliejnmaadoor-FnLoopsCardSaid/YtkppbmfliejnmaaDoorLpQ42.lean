/- Walk: the reference's parts (l3Parts, PartsOf). -/
import Derived.Test.YtkppbmfliejnmaaDoorLpQ24
import Derived.Test.YtkppbmfliejnmaaDoorLpQ36
import Derived.Test.YtkppbmfliejnmaaDoorLpQ41
import Derived.Test.YtkppbmfliejnmaaDoorLpQ27
import Derived.Test.YtkppbmfliejnmaaDoorLpQ7
import Derived.Deep.DeepCutAuto
import Derived.Deep.RegionHeld3
import Derived.Test.YtkppbmfliejnmaaDoorLpQ22
import Derived.Test.YtkppbmfliejnmaaDoorLpQ25
import Derived.Test.YtkppbmfliejnmaaDoorLpQ10
namespace Go.Proofs.YtkppbmfliejnmaaDoor
open Go.RowKit

theorem natInts_appP (a b : List Nat) : natInts (a ++ b) = natInts a ++ natInts b := by simp [natInts]
/-- The parts so far, each in a block of its own; what is done, in another. -/
structure PqW (W0 wr : World) (B : Nat) (gv : Value) (E : Nat → Nat → Bool) (L : List Nat) (o d : Value) (ps : List (List Nat)) (D G : List Nat) (k : Nat) (vals : List Value) : Prop where
  pa : PaI E L ps G k
  eqv : ∀ x, x ∈ D ↔ x ∈ G
  len : D.length ≤ k * 16
  vl : vals.length = ps.length
  out : wr.ownsRow B 33 1 o ps.length vals
  rows : ∀ j, j < ps.length → wr.ownsRow B 2 1 (vals.getD j undef) (ps.getD j []).length ((natInts (ps.getD j [])).map (Value.int .i64)) ∧ ∀ b, (vals.getD j undef).ownBlock = some b → d.ownBlock ≠ some b
  dn : wr.ownsRow B 2 1 d D.length ((natInts D).map (Value.int .i64))
  bel : Below W0.heap.size W0 wr
  box : Box wr W0.heap.size 29 gv
  hB : W0.heap.size < B
  hB2 : B ≤ wr.heap.size
theorem PqW.next {W0 wr wx : World} {B : Nat} {gv : Value} {E : Nat → Nat → Bool} {L : List Nat} {o d : Value} {ps : List (List Nat)} {D G : List Nat} {k : Nat} {vals : List Value} (h : PqW W0 wr B gv E L o d ps D G k vals) (hb : Below wr.heap.size wr wx) : PqW W0 wx B gv E L o d ps D G k vals :=
  ⟨h.pa, h.eqv, h.len, h.vl, ownsRow_below h.out hb, fun j hj => ⟨ownsRow_below (h.rows j hj).1 hb, (h.rows j hj).2⟩, ownsRow_below h.dn hb, h.bel.trans (hb.mono h.bel.size), h.box.keep hb, h.hB, Nat.le_trans h.hB2 hb.size⟩
theorem PqW.skip {W0 wr : World} {B : Nat} {gv : Value} {E : Nat → Nat → Bool} {L : List Nat} {o d : Value} {ps : List (List Nat)} {D G : List Nat} {k : Nat} {vals : List Value} (h : PqW W0 wr B gv E L o d ps D G k vals) (hi : k < L.length) (hd : L[k] ∈ D) : PqW W0 wr B gv E L o d ps D G (k + 1) vals :=
  ⟨h.pa.skip hi ((h.eqv _).1 hd), h.eqv, by have := h.len; omega, h.vl, h.out, h.rows, h.dn, h.bel, h.box, h.hB, h.hB2⟩
/-- A part is put behind the others (its row), then its vertices behind what is done. -/
theorem PqW.take {W0 wr w5 w7 w8 : World} {B : Nat} {gv : Value} {E : Nat → Nat → Bool} (hE : ∀ r j, E r j = true → E j r = true) {L : List Nat} (hL : L.Pairwise (· < ·)) (hL16 : L.length ≤ 16) {o d o' d' pv : Value} {ps : List (List Nat)} {D G : List Nat} {k y : Nat} {vals : List Value}
    (h : PqW W0 wr B gv E L o d ps D G k vals) (hk : k < L.length) (hy : L[k]'hk = y) (hd : y ∉ D) (hb : Below wr.heap.size wr w5)
    (hp : w5.ownsRow wr.heap.size 2 1 pv (partL E L y).length ((natInts (partL E L y)).map (Value.int .i64)))
    (ho : w7.ownsRow B 33 1 o' (ps.length + 1) (vals ++ [pv])) (hg : w5.grownBy w7 o.ownBlock)
    (ho8 : w8.ownsRow B 2 1 d' (D.length + (partL E L y).length) ((natInts D).map (Value.int .i64) ++ (natInts (partL E L y)).map (Value.int .i64))) (hg8 : w7.grownBy w8 d.ownBlock)
    (hnew : ∀ b, d'.ownBlock = some b → d.ownBlock = some b ∨ w7.heap.size ≤ b) :
    PqW W0 w8 B gv E L o' d' (ps ++ [partL E L y]) (D ++ partL E L y) (L.filter fun x => decide (x ∈ G ∨ x ∈ partL E L y)) (k + 1) (vals ++ [pv]) := by
  subst hy
  have h5 := h.next hb
  have hs5 := hb.size
  have hs7 := hg.size
  have hpw7 := ownsRow_other hp h5.out hg (by decide)
  have hdb : ∀ b, pv.ownBlock = some b → d.ownBlock ≠ some b := fun b hb1 hb2 => by
    have h1 := (hp.lt b hb1).1
    have h2 := (h.dn.lt b hb2).2
    omega
  have keep : ∀ (v : Value) (n : Nat) (xs : List Value) (base : Nat), w5.ownsRow base 2 1 v n xs → (∀ b, v.ownBlock = some b → d.ownBlock ≠ some b) → w8.ownsRow base 2 1 v n xs := fun v n xs base hv hne =>
    (ownsRow_other hv h5.out hg (by decide)).kept hg8 (by
      cases hvb : v.ownBlock with
      | none => exact .inl rfl
      | some b => exact .inr fun e => hne b hvb e.symm)
  have newd : ∀ (v : Value) (n : Nat) (xs : List Value) (base : Nat), w5.ownsRow base 2 1 v n xs → (∀ b, v.ownBlock = some b → d.ownBlock ≠ some b) → ∀ b, v.ownBlock = some b → d'.ownBlock ≠ some b := fun v n xs base hv hne b hb1 hb2 => by
    rcases hnew b hb2 with h1 | h1
    · exact hne b hb1 h1
    · have := (hv.lt b hb1).2
      omega
  refine ⟨h.pa.take hE hL hk (fun hm => hd ((h.eqv _).2 hm)) (List.Pairwise.filter _ hL) (fun x => ?_), fun x => ?_, ?_, by simp [h.vl], ?_, fun j hj => ?_, ?_, ?_, ?_, h.hB, ?_⟩
  · rw [List.mem_filter, decide_eq_true_eq]
    constructor
    · exact fun hx => hx.2
    · intro hx
      refine ⟨hx.elim (h.pa.sub x) fun hx => (mem_partL.1 hx).1, hx⟩
  · rw [List.mem_append, List.mem_filter, decide_eq_true_eq, h.eqv]
    constructor
    · intro hx
      exact ⟨hx.elim (h.pa.sub x) fun hx => (mem_partL.1 hx).1, hx⟩
    · exact fun hx => hx.2
  · have h1 := h.len
    have h2 := partL_length E L L[k]
    rw [List.length_append]
    omega
  · rw [List.length_append]
    exact ownsRow_other ho (E := 33) (ownsRow_other h5.dn h5.out hg (by decide)) hg8 (by decide)
  · rw [List.length_append, List.length_singleton] at hj
    by_cases hjl : j < ps.length
    · have e1 : (vals ++ [pv]).getD j undef = vals.getD j undef := by
        rw [List.getD_eq_getElem?_getD, List.getD_eq_getElem?_getD, List.getElem?_append_left (by rw [h.vl]; exact hjl)]
      have e2 : (ps ++ [partL E L L[k]]).getD j [] = ps.getD j [] := by
        rw [List.getD_eq_getElem?_getD, List.getD_eq_getElem?_getD, List.getElem?_append_left hjl]
      rw [e1, e2]
      have := h5.rows j hjl
      exact ⟨keep _ _ _ _ this.1 this.2, newd _ _ _ _ this.1 this.2⟩
    · obtain rfl : j = ps.length := by omega
      have e1 : (vals ++ [pv]).getD ps.length undef = pv := by
        rw [← h.vl]; simp
      have e2 : (ps ++ [partL E L L[k]]).getD ps.length [] = partL E L L[k] := by simp
      rw [e1, e2]
      exact ⟨ownsRow_base (keep _ _ _ _ hp hdb) h.hB2, newd _ _ _ _ hp hdb⟩
  · rw [List.length_append, natInts_appP, List.map_append]
    exact ho8
  · have h7 := below_grown h5.bel h5.out hg (by have := h.hB; omega) h5.bel.size
    exact below_grown h7 (ownsRow_other h5.dn h5.out hg (by decide)) hg8 (by have := h.hB; omega) h7.size
  · refine (h5.box.grown hg fun e => ?_).grown hg8 fun e => ?_
    · have := (h5.out.lt _ e.symm).1
      have := h.hB
      omega
    · have := (h.dn.lt _ e.symm).1
      have := h.hB
      omega
  · have := h5.hB2
    have := hg8.size
    omega

set_option maxRecDepth 100000 in
set_option maxHeartbeats 4000000 in
theorem l3Parts_any (v lv : Value) (g : List (List Int)) (L : List Nat) (hok : GOk g) (hL16 : L.length ≤ 16) (hL : L.Pairwise (· < ·)) (hLn : ∀ x ∈ L, x < g.length) (w : World) (hg : Gr w v g) (hl : Nums w 2 .i64 lv (natInts L)) :
    Calls Tryd.prog 147 #[v, lv] w fun e w' => ∃ (r : Value) (ps : List (List Nat)), e = .returned r ∧ Parts (ofG g) L ps ∧ SG w' w.heap.size (.agg #[r]) (ps.map natInts) ∧ ps.length ≤ 16 ∧ (∀ l ∈ ps, l.Pairwise (· < ·) ∧ ∀ x ∈ l, x ∈ L) ∧ Below w.heap.size w w' := by
  obtain ⟨lp, lc, rfl, _⟩ := id hl.shape
  have hg0 := hg
  obtain ⟨g0, rfl, hr⟩ := hg
  obtain ⟨p, c, rfl, _⟩ := hr.shape
  have HG := Lib.hid hg0
  clear hr hg0
  have HN := Lib.hid hl
  have HLN := Lib.hid hLn
  have HOK := Lib.hid hok
  have HSY := Lib.hid (ofG_sym hok)
  clear hl hLn hok
  go_enter Tryd.func147, Tryd.ntmps147
  go_wp2
  go_loopw [5, 6, 7] (fun o d i wr => ∃ ps D G k vals, k ≤ L.length ∧ i = .int .i64 k ∧ PqW w wr (w.heap.size + 1) (.slice p g.length c) (ofG g) L o d ps D G k vals) (fun _ _ i _ => L.length - (intOf i).toNat)
  case atStart =>
    have s1 : (w.alloc (.cells #[.slice p g.length c] 29)).heap.size = w.heap.size + 1 := by show (w.heap.push _).size = _; simp
    have s2 : ((w.alloc (.cells #[.slice p g.length c] 29)).alloc (.cells #[] 33)).heap.size = w.heap.size + 1 + 1 := by show (Array.push _ _).size = _; rw [Array.size_push, s1]
    refine ⟨[], [], [], 0, [], Nat.zero_le _, rfl, PaI.start' _ _, fun x => Iff.rfl, by simp, rfl, ?_, fun j hj => by simp at hj, ?_, ?_, ?_, by omega, ?_⟩
    · exact ownsRow_below (ownsRow_empty' w _ _ _ _ (Nat.le_refl _)) (below_alloc _ _)
    · have := ownsRow_empty ((w.alloc (.cells #[.slice p g.length c] 29)).alloc (.cells #[] 33)) 2 1
      rw [s2] at this
      exact ownsRow_base this (by omega)
    · exact ((below_alloc w _).alloc (below_alloc w _).size _).alloc (by omega) _
    · exact ((Box.new w _ 29).alloc _).alloc _
    · rw [size_alloc, s2]; omega
  case round =>
    obtain ⟨ps, D, G, k, vals, hk, rfl, hI⟩ := hrel
    obtain ⟨op, oc, rfl⟩ := owns_shapeR hI.out
    obtain ⟨dp, dc, rfl⟩ := owns_shapeR hI.dn
    have hbel := hI.bel
    have hsz := hbel.size
    have HN1 := HN.out.below hbel
    have hlL : (natInts L).length = L.length := natInts_length L
    rw [hlL] at HN1 ⊢
    have HI := Lib.hid hI
    by_cases hlt : k < L.length
    · obtain ⟨lb, lo, rfl, hlc⟩ := HN1.get (k := k) (by rw [natInts_length]; exact hlt)
      rw [natInts_atQ hlt] at hlc
      have hmemL : L[k]'hlt ∈ L := List.getElem_mem hlt
      have HLT := Lib.hid hlt
      have HN2 := Lib.hid HN1
      have HB := Lib.hid hbel
      have HDN : Hid (Nums wr 2 .i64 (.slice dp D.length dc) (natInts D)) := Lib.hid (Nums.of_owns hI.dn (by rw [natInts_length]) (by have := hI.len; omega))
      generalize hy : L[k]'hlt = y at hlc hmemL
      have HY := Lib.hid hy
      have HML := Lib.hid hmemL
      clear hy hI HN1 hmemL hbel hlL
      by_cases hin : y ∈ D
      · have hd : dec ((y : Int) ∈ natInts D) = true := dec_true (mem_natInts.2 ⟨y, hin, rfl⟩)
        have HIN := Lib.hid hin
        clear hin
        go_wp2_with (go_at_call 158; refine (l1Has_any _ (natInts D) _ _ HDN.out).mono ?_; rintro e w4 ⟨he4, rfl⟩; rw [hd] at he4; subst he4)
        go_roundw
        case rel => exact ⟨ps, D, G, k + 1, vals, by omega, by go_num, HI.out.skip hlt (by rw [HY.out]; exact HIN.out)⟩
        case measure => simp [intOf]; omega
      · have hd : dec ((y : Int) ∈ natInts D) = false := dec_false (new_nat hin)
        have HIN := Lib.hid hin
        clear hin
        have hxc := HI.out.box.cell
        go_upto_region 7 with (go_at_call 158; refine (l1Has_any _ (natInts D) _ _ HDN.out).mono ?_; rintro e w4 ⟨he4, rfl⟩; rw [hd] at he4; subst he4)
        go_cut [8] (fun s wx => wx.ownsRow wr.heap.size 2 1 s (partL (ofG g) L y).length ((natInts (partL (ofG g) L y)).map (Value.int .i64)) ∧ Below wr.heap.size wr wx)
        case first =>
          go_region_held3 (fun w' => w'.cell? ⟨w.heap.size, 0, none⟩ = some (.slice p g.length c) ∧ w'.cell? ⟨lb, lo + k, none⟩ = some (.int .i64 y))
            (first | go_keep | exact ⟨hxc, hlc⟩ | exact ⟨BWA.at' hxc, BWA.at' hlc⟩)
            (first | (go_at_call 207; refine (l3Part_any _ _ _ g L y rfl HOK.out hL HLN.out HML.out _ (HG.out.below (HB.out.trans (below_dN (Below.refl _ _) 1))) (HN2.out.below (below_dN (Below.refl _ _) 1))).mono ?_; rintro e w5 ⟨pv, rfl, hp5, hb5⟩; have HP5 := Lib.hid (ownsRow_base (base' := wr.heap.size) hp5 (below_dN (Below.refl wr.heap.size wr) 1).size); have BWA : Below wr.heap.size wr w5 := (below_dN (Below.refl _ _) 1).trans hb5; clear hp5 hb5))
          all_goals go_wp2
          all_goals go_meet
          all_goals exact ⟨HP5.out, BWA⟩
        case rest =>
          obtain ⟨hp5, hb5⟩ := hcut
          obtain ⟨pp, pc, rfl⟩ := owns_shapeR hp5
          have HP5 := Lib.hid hp5
          have HB5 := Lib.hid hb5
          have H5 := Lib.hid (HI.out.next hb5)
          have hpl := HI.out.pa.len
          have hplen := partL_length (ofG g) L y
          have hdl := HI.out.len
          clear hp5 hb5 hxc hlc
          go_wp2_with (first
            | (at_builtin; refine wpList_app ty_i64 rfl rfl rfl HD7.out rfl HP7.out (by rw [List.length_map, natInts_length, Nat.mul_one]) (oneCell_ints _ _) (by omega) HS7.out ?_; intro d8 w8 hown8 hg8 hnew8)
            | (at_builtin; refine wpList_app1s ty_rows64 rfl rfl rfl H5.out.out rfl rfl (by omega) H5.out.hB2 ?_; intro b7 c7 w7 hown7 hg7 hb7; have HD7 := Lib.hid (ownsRow_other H5.out.dn H5.out.out hg7 (by decide)); have HP7 := Lib.hid (Sl.of_owns (ownsRow_other HP5.out H5.out.out hg7 (by decide)) (by omega)); have HS7 : Hid (w.heap.size + 1 ≤ w7.heap.size) := Lib.hid (Nat.le_trans H5.out.hB2 hg7.size)))
          go_roundw
          case rel => exact ⟨_, _, _, k + 1, _, by omega, by go_num, HI.out.take HSY.out hL hL16 HLT.out HY.out HIN.out HB5.out HP5.out hown7 hg7 hown8 hg8 hnew8⟩
          case measure => simp [intOf]; omega
    · obtain rfl : k = L.length := by omega
      go_wp2
      go_ret
      refine ⟨_, ps, rfl, HI.out.pa.done, ⟨_, vals, rfl, by rw [List.length_map]; exact HI.out.vl, by rw [List.length_map]; exact ownsRow_base HI.out.out (by omega), fun j hj => ?_⟩, Nat.le_trans HI.out.pa.len hL16, HI.out.pa.all, hbel⟩
      rw [List.length_map] at hj
      have h1 := (HI.out.rows j hj).1
      have e : row (ps.map natInts) j = natInts (ps.getD j []) := by simp [row, hj]
      rw [e]
      refine Nums.of_owns h1 (by rw [natInts_length]) ?_
      have h2 : ps.getD j [] = ps[j] := by simp [hj]
      have h3 := HI.out.pa.all ps[j] (List.getElem_mem hj)
      rw [h2]
      have := rising_sub_len hL h3.1 h3.2
      omega

end Go.Proofs.YtkppbmfliejnmaaDoor

/- Walk: the program's EdgeParts. -/
namespace Go.Proofs.YtkppbmfliejnmaaDoor
open Go.RowKit

theorem mskL_lt {n : Nat} (hn : n ≤ 16) {ps : List (List Nat)} (h : ∀ l ∈ ps, l.Pairwise (· < ·) ∧ ∀ i ∈ l, i < n) : ∀ s ∈ mskL ps, s < 65536 := by
  intro s hs
  obtain ⟨l, hl, rfl⟩ := List.mem_map.1 hs
  exact mask_nat_lt16 fun i hi => by have := (h l hl).2 i hi; omega
theorem rowsOf_mskL {n : Nat} (hn : n ≤ 16) {ps : List (List Nat)} (h : ∀ l ∈ ps, l.Pairwise (· < ·) ∧ ∀ i ∈ l, i < n) : rowsOf (mskL ps) = ps.map natInts := by
  unfold rowsOf mskL
  rw [List.map_map]
  refine List.map_congr_left fun l hl => ?_
  show natInts (bitsOf (mask (natInts l))) = natInts l
  congr 1
  refine rising_ext _ _ (bitsOf_rising _) (h l hl).1 fun i => ?_
  rw [mem_left (mask_nat_lt16 fun i hi => by have := (h l hl).2 i hi; omega), mask_bit, decide_eq_true_eq]

/-- What the loop over the bridges carries. -/
structure EpI (w wr : World) (x ev : Value) (Bx Be n : Nat) (brs : List (Nat × Nat)) (F : Nat → Nat → Bool) : Prop where
  net : wr.ownsRow Bx 70 1 x n ((indN n F).map u32v)
  edg : PrsO wr Be ev brs
  bel : Below w.heap.size w wr
  tab : Tab wr
  tpos : 0 < w.heap.size
  b2 : w.heap.size ≤ Bx
theorem EpI.next {w wr wx : World} {x ev : Value} {Bx Be n : Nat} {brs : List (Nat × Nat)} {F : Nat → Nat → Bool} (h : EpI w wr x ev Bx Be n brs F) (hb : Below wr.heap.size wr wx) : EpI w wx x ev Bx Be n brs F :=
  ⟨ownsRow_below h.net hb, h.edg.below hb, h.bel.trans (hb.mono h.bel.size), h.tab.keep hb, h.tpos, h.b2⟩
theorem EpI.turn {w wr wx : World} {x ev : Value} {Bx Be n : Nat} {brs : List (Nat × Nat)} {F F' : Nat → Nat → Bool} (h : EpI w wr x ev Bx Be n brs F) (ho : wx.ownsRow Bx 70 1 x n ((indN n F').map u32v)) (hg : wr.grownBy wx x.ownBlock) : EpI w wx x ev Bx Be n brs F' :=
  ⟨ho, h.edg.otherT h.net hg, below_grown h.bel h.net hg h.b2 h.bel.size, h.tab.grownP hg (fun e => by
    have e' : x.ownBlock = some 0 := e.symm
    have := (h.net.lt _ e').1
    have := h.b2
    have := h.tpos
    omega), h.tpos, h.b2⟩

end Go.Proofs.YtkppbmfliejnmaaDoor

/- Walk: the parts of a graph, both answers (PartsOf). -/
namespace Go.Proofs.YtkppbmfliejnmaaDoor
open Go.RowKit

/-- What both answer. -/
def PtS (g : List (List Int)) (gg : List (List Int)) : Prop :=
  (GOk g ∧ ∃ ps, Parts (ofG g) (List.range g.length) ps ∧ gg = ps.map natInts) ∨ (¬ GOk g ∧ gg = [])
theorem ptS_det {g gg hh : List (List Int)} (h : PtS g gg) (h2 : PtS g hh) : gg = hh := by
  rcases h with ⟨hg, ps, h, rfl⟩ | ⟨hg, rfl⟩ <;> rcases h2 with ⟨hg2, qs, h2, rfl⟩ | ⟨hg2, rfl⟩
  · rw [parts_det h h2]
  · exact absurd hg hg2
  · exact absurd hg2 hg
  · rfl

set_option maxRecDepth 100000 in
set_option maxHeartbeats 2000000 in
theorem specPartsOf_any (v : Value) (g : List (List Int)) (w : World) (hg : Gr w v g) :
    Calls Tryd.prog 61 #[v] w fun e w' => ∃ (u : Value) (gg : List (List Int)), e = .returned u ∧ PtS g gg ∧ SG w' w.heap.size (.agg #[u]) gg ∧ gg.length ≤ 16 ∧ (∀ j, (row gg j).length ≤ 16) ∧ Below w.heap.size w w' := by
  have hg0 := hg
  obtain ⟨u, rfl, hr⟩ := hg
  obtain ⟨p, c, rfl, _⟩ := hr.shape
  have hbA := Lib.hid (below_alloc w (.cells #[.slice p g.length c] 29))
  have HG := Lib.hid (hg0.below hbA.out)
  have BX := Lib.hid (Box.new w (.slice p g.length c) 29)
  clear hr hg0
  by_cases hok : GOk g
  case neg =>
    have hd := Lib.hid (dec_false hok)
    have Hok := Lib.hid hok
    clear hok
    go_enter Tryd.func61, Tryd.ntmps61
    go_wp2_with (go_at_call 73; refine (specGraphOk_any _ g _ HG.out).mono ?_; rintro e w2 ⟨he, hb2⟩; rw [hd.out] at he; subst he)
    go_ret
    have hb2' := hbA.out.trans (hb2.mono hbA.out.size)
    exact ⟨_, [], rfl, .inr ⟨Hok.out, rfl⟩, ⟨_, [], rfl, rfl, ownsRow_base (ownsRow_empty w2 _ 1) hb2'.size, fun j hj => by simp at hj⟩, by simp, fun j => by simp [row], hb2'.trans ((below_alloc w2 _).mono hb2'.size)⟩
  have hd := Lib.hid (dec_true hok)
  have h16 := hok.le
  have HOK := Lib.hid hok
  clear hok
  go_enter Tryd.func61, Tryd.ntmps61
  go_upto_region 3 with (go_at_call 73; refine (specGraphOk_any _ g _ HG.out).mono ?_; rintro e w2 ⟨he, hb2⟩; rw [hd.out] at he; subst he)
  have hbx := (BX.out.keep hb2).cell
  have HG2 := Lib.hid (HG.out.below hb2)
  have HB2 := Lib.hid (hbA.out.trans (hb2.mono hbA.out.size))
  clear hb2
  go_cut [2] (fun s wx => ∃ (ps : List (List Nat)), Parts (ofG g) (List.range g.length) ps ∧ SG wx w2.heap.size (.agg #[s]) (ps.map natInts) ∧ ps.length ≤ 16 ∧ (∀ l ∈ ps, l.Pairwise (· < ·) ∧ ∀ x ∈ l, x ∈ List.range g.length) ∧ Below w2.heap.size w2 wx)
  case first =>
    go_region_held3 (fun w' => w'.cell? ⟨w.heap.size, 0, none⟩ = some (.slice p g.length c))
      (first | go_keep | exact hbx | exact BWC.at' hbx | exact BWB.at' hbx | exact BWA.at' hbx)
      (first
        | (go_at_call 147; refine (l3Parts_any _ _ g (List.range g.length) HOK.out (by rw [List.length_range]; exact h16) List.pairwise_lt_range (fun x hx => List.mem_range.1 hx) _ (HG2.out.below BWB) HL.out).mono ?_; rintro e w5 ⟨r, ps, rfl, hp5, hs5, hl5, hm5, hb5⟩; have HP5 := Lib.hid (And.intro hp5 (And.intro hl5 hm5)); have HS5 := Lib.hid (sg_base hs5 BWB.size); have BWC : Below w2.heap.size w2 w5 := BWB.trans (hb5.mono BWB.size); clear hp5 hs5 hl5 hm5 hb5)
        | (go_at_call 143; refine (l1All_any _ g.length rfl (by omega) _).mono ?_; rintro e w4 ⟨lv, rfl, ho4, hb4⟩; have HL := Lib.hid (Nums.of_owns ho4 (by rw [natInts_length, List.length_range]) (by omega)); have BWB : Below w2.heap.size w2 w4 := BWA.trans (hb4.mono BWA.size); clear ho4 hb4)
        | (go_at_call 132; refine (l1Size_any _ g _ (by first | exact HG2.out.below (below_dN (Below.refl _ _) 1))).mono ?_; rintro e w3 ⟨rfl, hb3⟩; have BWA : Below w2.heap.size w2 w3 := (below_dN (Below.refl _ _) 1).trans hb3; clear hb3))
    all_goals go_wp2
    all_goals go_meet
    all_goals exact ⟨ps, HP5.out.1, HS5.out, HP5.out.2.1, HP5.out.2.2, BWC⟩
  case rest =>
    obtain ⟨ps, hp, hs, hl, hm, hb⟩ := hcut
    have HP := Lib.hid hp
    have HS := Lib.hid hs
    have HM := Lib.hid hm
    have HBX := Lib.hid hb
    clear hp hs hm hb
    go_wp2
    go_ret
    refine ⟨_, ps.map natInts, rfl, .inl ⟨HOK.out, ps, HP.out, rfl⟩, sg_base HS.out HB2.out.size, by rw [List.length_map]; exact hl, fun j => ?_, HB2.out.trans (HBX.out.mono HB2.out.size)⟩
    by_cases hj : j < ps.length
    · have e : row (ps.map natInts) j = natInts ps[j] := by simp [row, hj]
      rw [e, natInts_length]
      have h3 := HM.out ps[j] (List.getElem_mem hj)
      have := rising_sub_len List.pairwise_lt_range h3.1 h3.2
      rw [List.length_range] at this
      omega
    · have e : row (ps.map natInts) j = [] := by simp [row, hj]
      rw [e]; simp

end Go.Proofs.YtkppbmfliejnmaaDoor

/- Walks: the reference's complement of a right graph. -/
namespace Go.Proofs.YtkppbmfliejnmaaDoor
open Go.RowKit

theorem symE_comp {g : List (List Int)} (hg : GOk g) : SymE g.length (compE (ofG g)) where
  sym := fun r j _ _ => by
    cases h : compE (ofG g) r j with
    | true => exact (comp_sym (ofG_sym hg) r j h).symm
    | false =>
      cases h2 : compE (ofG g) j r with
      | false => rfl
      | true => rw [comp_sym (ofG_sym hg) j r h2] at h; exact absurd h (by decide)
  irr := fun r _ => comp_irr _ r

set_option maxRecDepth 100000 in
set_option maxHeartbeats 4000000 in
theorem l2Other_any (v : Value) (g : List (List Int)) (hok : GOk g) (w : World) (hg : Gr w v g) :
    Calls Tryd.prog 86 #[v] w fun e w' => ∃ u, e = .returned u ∧ SG w' w.heap.size u (matG g.length (compE (ofG g))) ∧ Below w.heap.size w w' := by
  have hg0 := hg
  obtain ⟨u, rfl, hr⟩ := hg
  obtain ⟨gp, gc, rfl, _⟩ := hr.shape
  obtain ⟨W0, hW0⟩ : ∃ W0, W0 = (w.alloc (.cells #[.slice gp g.length gc] 29)).alloc (.cells #[.slice none 0 0] 29) := ⟨_, rfl⟩
  have hb0 : Below w.heap.size w W0 := by rw [hW0]; exact below_alloc2 _ _ _
  have hbg : Box W0 w.heap.size 29 (.slice gp g.length gc) := by rw [hW0]; exact (Box.new _ _ _).alloc _
  have hbn : Box W0 (w.heap.size + 1) 29 (.slice none 0 0) := by
    have := Box.new (w.alloc (.cells #[.slice gp g.length gc] 29)) (.slice none 0 0) 29
    rw [size_alloc] at this
    rw [hW0]; exact this
  have HW0 := Lib.hid hW0
  have HB0 := Lib.hid hb0
  have HBG := Lib.hid hbg
  have HBN := Lib.hid hbn
  have HG := Lib.hid (hg0.below hb0)
  have sz0 : W0.heap.size = w.heap.size + 2 := by rw [hW0, size_alloc, size_alloc]
  have h16 := hok.le
  have HSE := Lib.hid (symE_comp hok)
  have HOK := Lib.hid hok
  have cg0 := hbg.cell
  clear hr hg0 hb0 hbg hbn hok
  go_enter Tryd.func86, Tryd.ntmps86
  go_upto_region 1 with fail
  rw [← hW0]
  clear hW0
  go_upto_region 2 with (first
    | (go_at_call 157; refine (l1Empty_any _ g.length rfl (by omega) _).mono ?_; rintro e w3 ⟨u3, rfl, hs3, hb3⟩; obtain ⟨p, c, rfl⟩ := hs3.shape; rw [List.length_replicate] at hs3 ⊢)
    | (go_at_call 132; refine (l1Size_any _ g _ HG.out).mono ?_; rintro e w2 ⟨rfl, hb2⟩))
  have START : Hid (L2I W0 (w3.alloc (.cells #[.slice p g.length c] 29)) w3.heap.size p c g.length (matG g.length (uptoE (compE (ofG g)) 0 0))) := Lib.hid
    ⟨by rw [upto_start]; exact (hs3.base hb2.size).below (below_alloc _ _), (hb2.trans (hb3.mono hb2.size)).alloc (Nat.le_trans hb2.size hb3.size) _, Box.new _ _ _, fun k hk => ⟨Nat.le_trans hb2.size (hs3.lt k hk).1, (hs3.lt k hk).2⟩, Nat.le_trans hb2.size hb3.size⟩
  clear hs3 hb3 hb2 cg0
  go_wp2_with fail
  go_loopw [4] (fun i wr => ∃ k : Nat, k ≤ g.length ∧ i = .int .i64 k ∧ L2I W0 wr w3.heap.size p c g.length (matG g.length (uptoE (compE (ofG g)) k 0))) (fun i _ => g.length - (intOf i).toNat)
  case atStart => exact ⟨0, Nat.zero_le _, rfl, START.out⟩
  case round =>
    clear START
    obtain ⟨i, hi, rfl, hI⟩ := hrel
    have HI := Lib.hid hI
    clear hI
    have hcg := HI.out.bel.at (by omega) HBG.out.cell
    by_cases hlt : i < g.length
    · go_wp2_with (go_at_call 132; refine (l1Size_any _ g _ (HG.out.below HI.out.bel)).mono ?_; rintro e w4 ⟨rfl, hb4⟩; have HI4 := Lib.hid (HI.out.next hb4); clear hb4)
      clear hcg HI
      go_loopw [5] (fun i' wr => ∃ k : Nat, k ≤ i ∧ i' = .int .i64 k ∧ L2I W0 wr w3.heap.size p c g.length (matG g.length (uptoE (compE (ofG g)) i k))) (fun i' _ => i - (intOf i').toNat)
      case atStart => exact ⟨0, Nat.zero_le _, rfl, HI4.out⟩
      case round =>
        clear HI4
        obtain ⟨k, hk, rfl, hI⟩ := hrel
        have HI := Lib.hid hI
        clear hI
        by_cases hlt2 : k < i
        · have hcg := HI.out.bel.at (by omega) HBG.out.cell
          have hedge : Hid (dec ((i : Int) ∈ row g k) = !compE (ofG g) i k) := Lib.hid (by
            have h1 : ofG g i k = ofG g k i := by
              cases h : ofG g k i with
              | true => exact ofG_sym HOK.out _ _ h
              | false =>
                cases h2 : ofG g i k with
                | false => rfl
                | true => rw [ofG_sym HOK.out _ _ h2] at h; exact absurd h (by decide)
            have h2 : (i == k) = false := by simp; omega
            unfold compE
            rw [h2, h1]
            simp [ofG, decide_dec])
          have hkg : k < g.length := by omega
          have hml := matG_length g.length (uptoE (compE (ofG g)) i k)
          cases hE' : compE (ofG g) i k
          · have HD := Lib.hid (show dec ((i : Int) ∈ row g k) = true by rw [hedge.out, hE']; rfl)
            clear hedge
            go_wp2_with (go_at_call 109; refine (l1Edge_any _ g _ _ k i rfl rfl hkg _ (HG.out.below HI.out.bel)).mono ?_; rintro e w5 ⟨he, hb5⟩; rw [HD.out] at he; subst he; have HI5 := Lib.hid (HI.out.next hb5); clear hb5)
            go_roundw
            case rel => exact ⟨k + 1, by omega, by go_num, by rw [← upto_no HSE.out (by omega) hlt2 hE']; exact HI5.out⟩
            case measure => simp [intOf]; omega
          · have HD := Lib.hid (show dec ((i : Int) ∈ row g k) = false by rw [hedge.out, hE']; rfl)
            clear hedge
            go_wp2_with (first
              | (go_at_call 154; refine (Hlk.out _ rfl).mono ?_; rintro e w6 ⟨rfl, hs6, hg6⟩; have hbx := HI5.out.box.grown hg6 (fun e => by have := (HI5.out.own _ e.symm).2; omega); have hc6 := hbx.cell; have hf6 := hbx.free)
              | (go_at_call 109; refine (l1Edge_any _ g _ _ k i rfl rfl hkg _ (HG.out.below HI.out.bel)).mono ?_; rintro e w5 ⟨he, hb5⟩; rw [HD.out] at he; subst he; have HI5 := Lib.hid (HI.out.next hb5); clear hb5; have hb5 := HI5.out.box.cell; have hf5 := HI5.out.box.free; (have hlk : ∀ wz, wz = w5 → Calls Tryd.prog 154 #[.agg #[.slice p g.length c], .int .i64 k, .int .i64 i] wz fun e w' => e = .returned (.agg #[.slice p g.length c]) ∧ SG w' W0.heap.size (.agg #[.slice p g.length c]) (matG g.length (uptoE (compE (ofG g)) i (k + 1))) ∧ wz.grownBy w' (Value.slice p g.length c).ownBlock := (by
                  rintro wz rfl
                  have := l1Link_any p c (matG g.length (uptoE (compE (ofG g)) i k)) k i k i W0.heap.size rfl rfl (by omega) (by omega) (fun j _ => Nat.le_trans (matG_row_le j) (by omega)) wz (by rw [hml]; exact HI5.out.sg)
                  rw [hml, upto_yes HSE.out (by omega) hlt2 hE'] at this
                  exact this)); have Hlk := Lib.hid hlk; clear hlk))
            go_roundw
            case rel => exact ⟨k + 1, by omega, by go_num, HI5.out.link hs6 hg6⟩
            case measure => simp [intOf]; omega
        · obtain rfl : k = i := by omega
          go_wp2
          go_roundw
          case rel => exact ⟨k + 1, by omega, by go_num, by rw [← upto_row HSE.out]; exact HI.out⟩
          case measure => simp [intOf]; omega
    · obtain rfl : i = g.length := by omega
      go_wp2_with (go_at_call 132; refine (l1Size_any _ g _ (HG.out.below HI.out.bel)).mono ?_; rintro e w4 ⟨rfl, hb4⟩; have HI4 := Lib.hid (HI.out.next hb4); clear hb4; have hb5 := HI4.out.box.cell; have hbn := HI4.out.bel.at (by omega) HBN.out.cell; have hbf := (HI4.out.bel.frozen (p := ⟨w.heap.size + 1, 0, none⟩) (by show w.heap.size + 1 < _; omega)).trans HBN.out.free)
      have hbn2 := HBN.out.below HI4.out.bel (by omega)
      refine bodyPost_ret (v := .agg #[.slice p g.length c]) (by simp [results, Tryd.results86, go_sem, hbn]) rfl ⟨_, rfl, ?_, ?_⟩
      · have hs := (HI4.out.sg.setBox hbn2 (.slice p g.length c)).base (base' := w.heap.size) (by omega)
        rw [upto_end] at hs
        exact hs
      · exact (HB0.out.trans (HI4.out.bel.mono HB0.out.size)).setCell (by show w.heap.size ≤ w.heap.size + 1; omega) _


set_option maxRecDepth 100000 in
set_option maxHeartbeats 2000000 in
theorem specComplement_yes (v : Value) (g : List (List Int)) (hok : GOk g) (w : World) (hg : Gr w v g) :
    Calls Tryd.prog 14 #[v] w fun e w' => ∃ u, e = .returned (.tuple #[u, .bool true]) ∧ SG w' w.heap.size u (matG g.length (compE (ofG g))) ∧ Below w.heap.size w w' := by
  have hg0 := hg
  obtain ⟨u, rfl, hr⟩ := hg
  obtain ⟨gp, gc, rfl, _⟩ := hr.shape
  have hbA := Lib.hid (below_alloc2 w (.cells #[.slice gp g.length gc] 29) (.cells #[.slice none 0 0] 29))
  have BX := Lib.hid ((Box.new w (.slice gp g.length gc) 29).alloc (.cells #[.slice none 0 0] 29))
  have BN : Hid (Box ((w.alloc (.cells #[.slice gp g.length gc] 29)).alloc (.cells #[.slice none 0 0] 29)) (w.heap.size + 1) 29 (.slice none 0 0)) := by
    have := Box.new (w.alloc (.cells #[.slice gp g.length gc] 29)) (.slice none 0 0) 29
    rw [size_alloc] at this
    exact Lib.hid this
  have HG := Lib.hid (hg0.below hbA.out)
  have hd := dec_true hok
  have HOK := Lib.hid hok
  clear hr hg0 hok
  go_enter Tryd.func14, Tryd.ntmps14
  go_wp2_with (first
    | (go_at_call 73; refine (specGraphOk_any _ g _ HG.out).mono ?_; rintro e w2 ⟨he, hb2⟩; rw [hd] at he; subst he; have hbx := (BX.out.keep hb2).cell)
    | (go_at_call 86; refine (l2Other_any _ g HOK.out _ (HG.out.below hb2)).mono ?_; rintro e w3 ⟨u3, rfl, hs3, hb3⟩; obtain ⟨p3, c3, rfl⟩ := hs3.shape; have hbn := (BN.out.keep hb2).keep hb3; obtain ⟨hnc, hnf, hnl, hnB⟩ := hbn))
  have h0 := hbA.out.size
  have h2 := hb2.size
  rw [size_alloc, size_alloc] at h2
  refine bodyPost_ret (v := .tuple #[.agg #[.slice p3 (matG g.length (compE (ofG g))).length c3], .bool true]) (by simp [results, Tryd.results14, go_sem, hnc]) rfl ⟨_, rfl, ?_, ?_⟩
  · exact (hs3.setBox ⟨hnc, hnf, hnl, hnB⟩ _).base (by omega)
  · exact ((hbA.out.trans (hb2.mono hbA.out.size)).trans (hb3.mono (Nat.le_trans hbA.out.size hb2.size))).setCell (by show w.heap.size ≤ w.heap.size + 1; omega) _

end Go.Proofs.YtkppbmfliejnmaaDoor
