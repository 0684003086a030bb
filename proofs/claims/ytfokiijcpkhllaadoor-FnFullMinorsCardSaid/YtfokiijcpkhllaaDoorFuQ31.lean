/- Two boxes. -/
import Derived.Test.YtfokiijcpkhllaaDoorFuQ1
import Derived.Test.YtfokiijcpkhllaaDoorFuQ28
import Derived.Test.YtfokiijcpkhllaaDoorFuQ30
import Derived.Test.YtfokiijcpkhllaaDoorFuQ26
import Derived.Test.YtfokiijcpkhllaaDoorFuQ27
import Derived.Test.YtfokiijcpkhllaaDoorFuQ7
import Derived.Test.YtfokiijcpkhllaaDoorFuQ24
namespace Go.Proofs.YtfokiijcpkhllaaDoor
open Go.RowKit

theorem two_boxesM (w : World) (a b : Value) (T1 T2 : TypeId) : ∃ W, W = (w.alloc (.cells #[a] T1)).alloc (.cells #[b] T2) ∧ Below w.heap.size w W ∧ W.heap.size = w.heap.size + 2 ∧ Box W w.heap.size T1 a ∧ Box W (w.heap.size + 1) T2 b := by
  have h2 := Box.new (w.alloc (.cells #[a] T1)) b T2
  rw [size_alloc] at h2
  exact ⟨_, rfl, below_alloc2 _ _ _, by rw [size_alloc, size_alloc], (Box.new w a T1).alloc _, h2⟩

end Go.Proofs.YtfokiijcpkhllaaDoor

/- What the laws of several arguments use: arguments of bounded size, what stands after some copies, boxes. -/
namespace Go.Proofs.YtfokiijcpkhllaaDoor
open Go.RowKit

def SzG (g : List (List Int)) : Prop := g.length ≤ 1048576 ∧ ∀ j, j < g.length → (row g j).length ≤ 1048576
theorem OwnG.gr' {w : World} {base : Nat} {v : Value} {g : List (List Int)} (h : OwnG w base v g) (hs : SzG g) : Gr w v g :=
  h.gr (by have := hs.1; omega) fun j hj => by have := hs.2 j hj; omega
/-- What stands after some of the copies. -/
structure StM (W2 w' : World) (ys : List (Value × List (List Int))) : Prop where
  bel : Below W2.heap.size W2 w'
  own : ∀ y ∈ ys, OwnG w' W2.heap.size y.1 y.2
theorem StM.next {W2 w' w'' : World} {ys : List (Value × List (List Int))} (h : StM W2 w' ys) (hb : Below w'.heap.size w' w'') : StM W2 w'' ys :=
  ⟨h.bel.trans (hb.mono h.bel.size), fun y hy => (h.own y hy).below hb⟩
theorem StM.add {W2 w' w'' : World} {ys : List (Value × List (List Int))} {u : Value} {g : List (List Int)} (h : StM W2 w' ys) (hb : Below w'.heap.size w' w'') (ho : OwnG w'' w'.heap.size u g) : StM W2 w'' ((u, g) :: ys) :=
  ⟨(h.next hb).bel, fun y hy => by
    rcases List.mem_cons.1 hy with rfl | h1
    · exact ho.lower h.bel.size
    · exact (h.next hb).own y h1⟩
end Go.Proofs.YtfokiijcpkhllaaDoor

/- Walk: the program's ModelWord of a model whose sets are a word's. -/
namespace Go.Proofs.YtfokiijcpkhllaaDoor
open Go.RowKit

theorem sl_setOwn {w : World} {E E' : TypeId} {v : Value} {n m b i c base size : Nat} {vals ys : List Value} (h : Sl w E v n vals) (ho : w.ownsRow base E' size (.slice (some ⟨b, 0, none⟩) m c) m ys) (hE : E ≠ E') (u : Value) : Sl (w.setCell ⟨b, i, none⟩ u) E v n vals :=
  h.other ho (grown_setMs w b i u) hE


end Go.Proofs.YtfokiijcpkhllaaDoor

/- Walk: the program's MinorIn (printed by wip/mkMiM.py). -/
namespace Go.Proofs.YtfokiijcpkhllaaDoor
open Go.RowKit

theorem DG.setMi {w : World} {base b : Nat} {v x : Value} {g : List (List Int)} (h : DG w base v g) (hb : Box w b 49 x) (u : Value) : DG (w.setCell ⟨b, 0, none⟩ u) base v g := by
  obtain ⟨u0, vals, h1, h2, h3, h4⟩ := h
  exact ⟨u0, vals, h1, h2, ownsRow_setBox h3 hb (by decide) _, ⟨fun j hj => ownsRow_setBox (h4.rows j hj) hb (by decide) _, h4.dis⟩⟩
theorem dg_nilMi (w : World) (base : Nat) : DG w base (.agg #[.slice none 0 0]) [] := ⟨_, [], rfl, rfl, World.ownsRow_nil _ _ _ _, ⟨fun j hj => by simp at hj, fun i j hi => by simp at hi⟩⟩
theorem ofG_comm {g : List (List Int)} (hg : GOk g) (i k : Nat) : ofG g i k = ofG g k i := by
  rw [Bool.eq_iff_iff]
  exact ⟨ofG_sym hg i k, ofG_sym hg k i⟩
theorem ofG_to {g : List (List Int)} (hg : GOk g) (x y : Nat) (h : ofG g x y = true) : y < g.length := by
  simp only [ofG, decide_eq_true_eq] at h
  by_cases hx : x < g.length
  · have := (hg.sets x hx).1.1 _ h
    omega
  · have : row g x = [] := by simp [row, List.getElem?_eq_none (show g.length ≤ x by omega)]
    rw [this] at h
    simp at h
theorem rowsOf_mskW {m : Nat} {w : List Nat} (h : w.length ≤ 16) : rowsOf (mskW m w) = setsW m w := by
  unfold rowsOf setsW
  rw [mskW, List.map_map]
  refine List.map_congr_left fun k hk => ?_
  have hk := List.mem_range.1 hk
  have := bits_mskW w h hk
  rw [mskW_at w hk] at this
  simp [this]
theorem row_setsW_leI {m j : Nat} {w : List Nat} (h : w.length ≤ 16) : (row (setsW m w) j).length ≤ 16 := by
  by_cases e : j < m
  · rw [row_setsW e, natInts_length]
    refine Nat.le_trans ?_ h
    have := List.length_filter_le (fun v => w.getD v 0 == j + 1) (List.range w.length)
    rw [List.length_range] at this
    exact this
  · have : row (setsW m w) j = [] := by simp [row, setsW, List.getElem?_eq_none (show ((List.range m).map fun k => natInts (setW w k)).length ≤ j by simp; omega)]
    rw [this]; exact Nat.zero_le _

theorem MnEnd.lower {w0 w1 w' : World} {m : Nat} {u : Value} {f : Option (List Nat)} (h : MnEnd w1 w' m u f) (hb : w0.heap.size ≤ w1.heap.size) : MnEnd w0 w' m u f := by
  rcases h with h | ⟨x, b, h1, h2, h3⟩
  · exact .inl h
  · exact .inr ⟨x, b, h1, h2, ownsRow_base h3 hb⟩
set_option maxRecDepth 100000 in
set_option maxHeartbeats 4000000 in
theorem implMinorIn_any (v pv : Value) (g p : List (List Int)) (w : World) (hg : Gr w v g) (hp : Gr w pv p) (hT : Tab w) :
    Calls Tryd.prog 36 #[v, pv] w fun e w' => ∃ (u : Value) (R : List (List Int)) (ok : Bool), e = .returned (.tuple #[u, .bool ok]) ∧ MiS g p R ok ∧ DG w' w.heap.size u R ∧ R.length ≤ 16 ∧ (∀ j, (row R j).length ≤ 16) ∧ Below w.heap.size w w' := by
  have hg0 := Lib.hid hg
  have hp0 := Lib.hid hp
  obtain ⟨_, rfl, hr⟩ := hg
  obtain ⟨ga, gc, rfl, _⟩ := hr.shape
  obtain ⟨_, rfl, hr2⟩ := hp
  obtain ⟨pa, pc, rfl, _⟩ := hr2.shape
  obtain ⟨W0, hW0, hbA, SZ0, B0, B1, B2⟩ := three_boxesM w (.slice ga g.length gc) (.slice pa p.length pc) (.slice none 0 0) 29 29 49
  have HBA := Lib.hid hbA
  have HT := Lib.hid (hT.keep hbA)
  have HG := Lib.hid (hg0.out.below hbA)
  have HP := Lib.hid (hp0.out.below hbA)
  have HX0 := Lib.hid B0
  have HX1 := Lib.hid B1
  have HX2 := Lib.hid B2
  have HSZ := Lib.hid SZ0
  clear hT hr hr2 hg0 hp0 hbA SZ0 B0 B1 B2
  by_cases hok : GOk g
  case neg =>
    have HC := Lib.hid (show MiS g p [] false from .inr ⟨fun h => hok (by have := h.1; first | exact this.1 | exact this.2.1 | exact this.2.2.1 | exact this.2.2.2), rfl, rfl⟩)
    have HD := Lib.hid (dec_false hok)
    clear hok
    go_enter Tryd.func36, Tryd.ntmps36
    go_upto_region 1 with fail
    rw [← hW0]
    clear hW0
    have c0 := HX0.out.cell
    go_wp2_with (first
      | (go_at_call 38; refine (implGraphOk_any _ g _ HG.out).mono ?_; rintro e w2 ⟨he, hb2⟩; rw [HD.out] at he; subst he; obtain ⟨nc, nf, nl, nB⟩ := HX2.out.keep hb2))
    refine bodyPost_ret (v := .tuple #[.agg #[.slice none 0 0], .bool false]) (by simp [results, Tryd.results36, go_sem, nc]) rfl ⟨_, [], false, rfl, HC.out, dg_nilMi _ _, by simp, fun j => by simp [row], ?_⟩
    exact ((HBA.out.trans (hb2.mono HBA.out.size))).setCell (by show w.heap.size ≤ w.heap.size + 2; omega) _
  have HD := Lib.hid (dec_true hok)
  by_cases hok2 : GOk p
  case neg =>
    have HC := Lib.hid (show MiS g p [] false from .inr ⟨fun h => hok2 (by have := h.1; first | exact this.1 | exact this.2.1 | exact this.2.2.1 | exact this.2.2.2), rfl, rfl⟩)
    have HD2 := Lib.hid (dec_false hok2)
    clear hok2
    go_enter Tryd.func36, Tryd.ntmps36
    go_upto_region 1 with fail
    rw [← hW0]
    clear hW0
    have c0 := HX0.out.cell
    go_wp2_with (first
      | (go_at_call 38; refine (implGraphOk_any _ p _ (HP.out.below hb2)).mono ?_; rintro e w3 ⟨he, hb3⟩; rw [HD2.out] at he; subst he; obtain ⟨nc, nf, nl, nB⟩ := (HX2.out.keep hb2).keep hb3)
      | (go_at_call 38; refine (implGraphOk_any _ g _ HG.out).mono ?_; rintro e w2 ⟨he, hb2⟩; rw [HD.out] at he; subst he; have c1 := (HX1.out.keep hb2).cell))
    refine bodyPost_ret (v := .tuple #[.agg #[.slice none 0 0], .bool false]) (by simp [results, Tryd.results36, go_sem, nc]) rfl ⟨_, [], false, rfl, HC.out, dg_nilMi _ _, by simp, fun j => by simp [row], ?_⟩
    exact (((HBA.out.trans (hb2.mono HBA.out.size)).trans (hb3.mono (Nat.le_trans HBA.out.size hb2.size)))).setCell (by show w.heap.size ≤ w.heap.size + 2; omega) _
  have HD2 := Lib.hid (dec_true hok2)
  have HOK := Lib.hid hok
  have HOK2 := Lib.hid hok2
  clear hok hok2
  by_cases h8 : g.length ≤ 8
  case neg =>
    have HC := Lib.hid (show MiS g p [] false from .inr ⟨fun h => h8 (by have := h.1; first | exact this.1 | exact this.2.1 | exact this.2.2.1 | exact this.2.2.2), rfl, rfl⟩)
    have hgt : (8 : Int) < (g.length : Int) := by omega
    clear h8
    go_enter Tryd.func36, Tryd.ntmps36
    go_upto_region 1 with fail
    rw [← hW0]
    clear hW0
    have c0 := HX0.out.cell
    go_wp2_with (first
      | (go_at_call 38; refine (implGraphOk_any _ p _ (HP.out.below hb2)).mono ?_; rintro e w3 ⟨he, hb3⟩; rw [HD2.out] at he; subst he; have k0 := ((HX0.out.keep hb2).keep hb3).cell; obtain ⟨nc, nf, nl, nB⟩ := (HX2.out.keep hb2).keep hb3)
      | (go_at_call 38; refine (implGraphOk_any _ g _ HG.out).mono ?_; rintro e w2 ⟨he, hb2⟩; rw [HD.out] at he; subst he; have c1 := (HX1.out.keep hb2).cell))
    refine bodyPost_ret (v := .tuple #[.agg #[.slice none 0 0], .bool false]) (by simp [results, Tryd.results36, go_sem, nc]) rfl ⟨_, [], false, rfl, HC.out, dg_nilMi _ _, by simp, fun j => by simp [row], ?_⟩
    exact (((HBA.out.trans (hb2.mono HBA.out.size)).trans (hb3.mono (Nat.le_trans HBA.out.size hb2.size)))).setCell (by show w.heap.size ≤ w.heap.size + 2; omega) _
  have hgt : ¬ (8 : Int) < (g.length : Int) := by omega
  by_cases h5 : p.length ≤ 5
  case neg =>
    have HC := Lib.hid (show MiS g p [] false from .inr ⟨fun h => h5 (by have := h.1; first | exact this.1 | exact this.2.1 | exact this.2.2.1 | exact this.2.2.2), rfl, rfl⟩)
    have hgt5 : (5 : Int) < (p.length : Int) := by omega
    clear h5
    go_enter Tryd.func36, Tryd.ntmps36
    go_upto_region 1 with fail
    rw [← hW0]
    clear hW0
    have c0 := HX0.out.cell
    go_wp2_with (first
      | (go_at_call 38; refine (implGraphOk_any _ p _ (HP.out.below hb2)).mono ?_; rintro e w3 ⟨he, hb3⟩; rw [HD2.out] at he; subst he; have k0 := ((HX0.out.keep hb2).keep hb3).cell; have k1 := ((HX1.out.keep hb2).keep hb3).cell; obtain ⟨nc, nf, nl, nB⟩ := (HX2.out.keep hb2).keep hb3)
      | (go_at_call 38; refine (implGraphOk_any _ g _ HG.out).mono ?_; rintro e w2 ⟨he, hb2⟩; rw [HD.out] at he; subst he; have c1 := (HX1.out.keep hb2).cell))
    refine bodyPost_ret (v := .tuple #[.agg #[.slice none 0 0], .bool false]) (by simp [results, Tryd.results36, go_sem, nc]) rfl ⟨_, [], false, rfl, HC.out, dg_nilMi _ _, by simp, fun j => by simp [row], ?_⟩
    exact (((HBA.out.trans (hb2.mono HBA.out.size)).trans (hb3.mono (Nat.le_trans HBA.out.size hb2.size)))).setCell (by show w.heap.size ≤ w.heap.size + 2; omega) _
  have hgt5 : ¬ (5 : Int) < (p.length : Int) := by omega
  go_enter Tryd.func36, Tryd.ntmps36
  go_upto_region 1 with fail
  rw [← hW0]
  clear hW0
  have c0 := HX0.out.cell
  go_upto_region 3 with (first
      | (go_at_call 38; refine (implGraphOk_any _ p _ (HP.out.below hb2)).mono ?_; rintro e w3 ⟨he, hb3⟩; rw [HD2.out] at he; subst he; have k0 := ((HX0.out.keep hb2).keep hb3).cell; have k1 := ((HX1.out.keep hb2).keep hb3).cell)
      | (go_at_call 38; refine (implGraphOk_any _ g _ HG.out).mono ?_; rintro e w2 ⟨he, hb2⟩; rw [HD.out] at he; subst he; have c1 := (HX1.out.keep hb2).cell))
  have HB3 : Hid (Below W0.heap.size W0 w3) := Lib.hid (hb2.trans (hb3.mono hb2.size))
  have HT3 := Lib.hid (HT.out.keep HB3.out)
  have HG3 := Lib.hid (HG.out.below HB3.out)
  have HP3 := Lib.hid (HP.out.below HB3.out)
  have g16 := HOK.out.le
  have p16 := HOK2.out.le
  clear hb2 hb3 c0 c1 hgt hgt5
  go_cut [6] (fun s6 wx => MnEnd w3 wx p.length s6 (findN p.length (FitW p.length (ofG g) (ofG p)) g.length []) ∧ Below w3.heap.size w3 wx)
  case first =>
    go_region_held3 (fun W => W.cell? ⟨w.heap.size, 0, none⟩ = some (.slice ga g.length gc) ∧ W.cell? ⟨w.heap.size + 1, 0, none⟩ = some (.slice pa p.length pc))
      (first | exact ⟨k0, k1⟩ | go_keep | exact ⟨BWC.at' k0, BWC.at' k1⟩ | exact ⟨BWB.at' k0, BWB.at' k1⟩ | exact ⟨BWA.at' k0, BWA.at' k1⟩)
      (first
        | (go_at_call 97; refine (minorIn_any _ _ g.length p.length (ofG g) (ofG p) h8 (by omega) (ofG_sym HOK.out) (ofG_to HOK.out) (ofG_comm HOK2.out) (ofG_irr HOK2.out) _ (HNA.out.next hb5x) HNB.out (HT3.out.keep BWB)).mono ?_; rintro e w6 ⟨u6, rfl, hend, hb6⟩; have HEND := Lib.hid (hend.lower BWB.size); have BWC : Below w3.heap.size w3 w6 := BWB.trans (hb6.mono BWB.size); clear hend)
        | (go_at_call 41; have BWA2 := BWA; clear BWA2; refine (netsOf_any _ p _ (HP3.out.below (by first | exact BWA | exact BWA.trans (below_dN (Below.refl _ _) 1))) HOK2.out).mono ?_; rintro e w5 ⟨x5, rfl, hown5, hb5⟩; have HNB : Hid (NE w5 x5 p.length (ofG p)) := Lib.hid ⟨p16, by rw [indN_ofG HOK2.out]; exact Sl.of_owns hown5 (by omega)⟩; have hb5x : Below w4.heap.size w4 w5 := (by first | exact hb5 | exact (below_dN (Below.refl _ _) 1).trans hb5); have BWB : Below w3.heap.size w3 w5 := BWA.trans (hb5x.mono BWA.size); clear hown5)
        | (go_at_call 41; refine (netsOf_any _ g _ (HG3.out.below (below_dN (Below.refl _ _) 1)) HOK.out).mono ?_; rintro e w4 ⟨x4, rfl, hown4, hb4⟩; have HNA : Hid (NE w4 x4 g.length (ofG g)) := Lib.hid ⟨g16, by rw [indN_ofG HOK.out]; exact Sl.of_owns hown4 (by omega)⟩; have BWA : Below w3.heap.size w3 w4 := (below_dN (Below.refl _ _) 1).trans hb4; clear hown4))
    all_goals go_wp2
    all_goals go_meet
    all_goals exact ⟨HEND.out, BWC⟩
  case rest =>
  obtain ⟨hend, hbc⟩ := hcut
  have HB4 : Hid (Below W0.heap.size W0 wc) := Lib.hid (HB3.out.trans (hbc.mono HB3.out.size))
  have s3 := HB3.out.size
  obtain ⟨nc, nf, nl, nB⟩ := HX2.out.keep HB4.out
  clear k0 k1
  rcases hend with ⟨hf, rfl⟩ | ⟨x, b, hf, rfl, hown⟩
  · have HC := Lib.hid (show MiS g p [] false from .inr ⟨fun h => (by obtain ⟨_, y, hy⟩ := h; exact absurd (hf.symm.trans hy) (by simp)), rfl, rfl⟩)
    have hnl : ∀ w, Sem.run Tryd.prog (binOp BinOp.eql 60 (.slice none 0 0) (.slice none 0 0)) w = .ok (.bool true) w := fun w => rfl
    clear hbc hf
    go_wp2_with fail
    refine bodyPost_ret (v := .tuple #[.agg #[.slice none 0 0], .bool false]) (by simp [results, Tryd.results36, go_sem, nc]) rfl ⟨_, [], false, rfl, HC.out, dg_nilMi _ _, by simp, fun j => by simp [row], ?_⟩
    exact (HBA.out.trans (HB4.out.mono HBA.out.size)).setCell (by show w.heap.size ≤ w.heap.size + 2; omega) _
  · have hnl : ∀ w, Sem.run Tryd.prog (binOp BinOp.eql 60 (.slice (some ⟨b, 0, none⟩) p.length p.length) (.slice none 0 0)) w = .ok (.bool false) w := fun w => rfl
    have HC := Lib.hid (show MiS g p (setsW p.length x) true from .inl ⟨⟨HOK.out, HOK2.out, h8, h5⟩, x, hf, rfl, rfl⟩)
    have hxl : Hid (x.length ≤ 16) := Lib.hid (by
      obtain ⟨_, u, e, hu, _⟩ := findN_some _ _ _ hf
      rw [e]; simp; omega)
    have HRO := Lib.hid (rowsOf_mskW (m := p.length) hxl.out)
    have HLT : Hid (∀ s ∈ mskW p.length x, s < 4294967296) := Lib.hid (fun s hs => by
      obtain ⟨j, hj, rfl⟩ := List.getElem_of_mem hs
      have := mskW_lt16 (m := p.length) (k := j) hxl.out
      rw [List.getD_eq_getElem?_getD, List.getElem?_eq_getElem hj] at this
      have e : (mskW p.length x)[j] < 65536 := this
      omega)
    have HAL := Lib.hid (mskW_length p.length x)
    have HSL : Hid (Sl wc 64 (.slice (some ⟨b, 0, none⟩) p.length p.length) (mskW p.length x).length ((mskW p.length x).map u32v)) := Lib.hid (by rw [HAL.out]; exact Sl.of_owns hown (by omega))
    clear hbc hf hown
    go_wp2_with (go_at_call 83; refine (results_any _ (mskW p.length x) HLT.out (by rw [HAL.out]; omega) _ HSL.out (HT.out.keep HB4.out)).mono ?_; rintro e w7 ⟨u7, rfl, hd7, hb7⟩; rw [HRO.out] at hd7; obtain ⟨rp7, rc7, e7⟩ := hd7.shape; cases e7; obtain ⟨mc, mf, ml, mB⟩ := (HX2.out.keep HB4.out).keep hb7)
    have h1 := HBA.out.size
    have h2 := HB4.out.size
    refine bodyPost_ret (v := .tuple #[.agg #[.slice rp7 (setsW p.length x).length rc7], .bool true]) (by simp [results, Tryd.results36, go_sem, mc]) rfl ⟨_, setsW p.length x, true, rfl, HC.out, (hd7.setMi ⟨mc, mf, ml, mB⟩ _).base (by omega), by rw [setsW_length]; omega, fun j => row_setsW_leI hxl.out, ?_⟩
    exact (HBA.out.trans ((HB4.out.trans (hb7.mono h2)).mono h1)).setCell (by show w.heap.size ≤ w.heap.size + 2; omega) _

end Go.Proofs.YtfokiijcpkhllaaDoor

/- Walk: the program's WordModel of a word of so many sets. -/
namespace Go.Proofs.YtfokiijcpkhllaaDoor
open Go.RowKit


end Go.Proofs.YtfokiijcpkhllaaDoor

/- Walks: the closures with which a least cover is sought. -/
namespace Go.Proofs.YtfokiijcpkhllaaDoor
open Go.RowKit

/-- What stands below the call. -/
structure CvBase (w : World) (n : Nat) (S : List (List Int)) (sp : Option Addr) (sc ba : Nat) : Prop where
  h16 : n ≤ 16
  box : Box w ba 60 (.slice sp S.length sc)
  sl : Sl w 64 (.slice sp S.length sc) S.length ((S.map mask).map u32v)
  rng : ∀ j, j < S.length → ∀ x ∈ row S j, 0 ≤ x ∧ x < 16
  few : S.length ≤ 1000000
theorem CvBase.next {w w' : World} {n : Nat} {S : List (List Int)} {sp : Option Addr} {sc ba : Nat} (h : CvBase w n S sp sc ba) (hb : Below w.heap.size w w') : CvBase w' n S sp sc ba :=
  ⟨h.h16, h.box.keep hb, h.sl.below hb, h.rng, h.few⟩

theorem decide_dec_iff {p q : Prop} [Decidable p] (h : p ↔ q) : decide p = dec q := by
  by_cases k : p
  · rw [dec_true (h.1 k)]; simp [k]
  · rw [dec_false (fun c => k (h.2 c))]; simp [k]
def NoJ (S : List (List Int)) (s j : Nat) : Prop := s &&& mask (row S j) = 0
theorem covN_iff {S : List (List Int)} {s : Nat} (hr : ∀ j, j < S.length → ∀ x ∈ row S j, 0 ≤ x ∧ x < 16) : CovN S s ↔ ∀ j, j < S.length → ¬ NoJ S s j := by
  have key : ∀ j, j < S.length → ∀ i : Nat, (mask (row S j)).testBit i = true ↔ (i : Int) ∈ row S j := fun j hj i => by
    rw [testBit_mask, List.any_eq_true]
    constructor
    · rintro ⟨x, hx, e⟩
      have h1 := (hr j hj x hx).1
      have h2 : x.toNat = i := by simpa using e
      have : (i : Int) = x := by omega
      rw [this]; exact hx
    · intro h
      exact ⟨_, h, by simp⟩
  constructor
  · intro h j hj k
    obtain ⟨i, h1, h2⟩ := h j hj
    exact and_zero_iff.1 k i ⟨h1, (key j hj i).2 h2⟩
  · intro h j hj
    have := mt and_zero_iff.2 (h j hj)
    obtain ⟨i, hi⟩ := Classical.not_forall.1 this
    obtain ⟨h1, h2⟩ := Classical.not_not.1 hi
    exact ⟨i, h1, (key j hj i).1 h2⟩

end Go.Proofs.YtfokiijcpkhllaaDoor

/- Walks: whether an edge joins two sets of the program's. -/
namespace Go.Proofs.YtfokiijcpkhllaaDoor
open Go.RowKit

/-- An edge joins two masks. -/
def JnV (E : Nat → Nat → Bool) (t v : Nat) : Prop := ∃ u, t.testBit u = true ∧ E v u = true
def JnM (E : Nat → Nat → Bool) (s t : Nat) : Prop := ∃ v, s.testBit v = true ∧ JnV E t v

theorem natInts_atJ {l : List Nat} {k : Nat} (h : k < l.length) {h' : k < (natInts l).length} : (natInts l)[k] = ((l[k] : Nat) : Int) := by simp [natInts]
/-- What the closure reads. -/
structure JnB (w : World) (n : Nat) (E : Nat → Nat → Bool) (t : Nat) (ba bt : Nat) (xp : Option Addr) (xc : Nat) : Prop where
  boxA : Box w ba 61 (.slice xp n xc)
  ne : NE w (.slice xp n xc) n E
  boxT : Box w bt 64 (.int .u32 (t : Int))
  t16 : t < 65536
  tn : ∀ i, t.testBit i = true → i < n
theorem JnB.next {w w' : World} {n : Nat} {E : Nat → Nat → Bool} {t ba bt : Nat} {xp : Option Addr} {xc : Nat} (h : JnB w n E t ba bt xp xc) (hb : Below w.heap.size w w') : JnB w' n E t ba bt xp xc :=
  ⟨h.boxA.keep hb, h.ne.next hb, h.boxT.keep hb, h.t16, h.tn⟩

set_option maxRecDepth 100000 in
set_option maxHeartbeats 1000000 in
theorem joinV_any (z : Int) (v n : Nat) (E : Nat → Nat → Bool) (t ba bt : Nat) (xp : Option Addr) (xc : Nat) (hz : z = v) (hv : v < n) (w : World) (hJ : JnB w n E t ba bt xp xc) :
    Calls Tryd.prog 134 #[.int .i64 z, .pointer (some ⟨ba, 0, none⟩), .pointer (some ⟨bt, 0, none⟩)] w fun e w' => e = .returned (.bool (dec (JnV E t v))) ∧ Below w.heap.size w w' := by
  subst hz
  have hca := hJ.boxA.cell
  have hct := hJ.boxT.cell
  obtain ⟨nb, no, av, rfl, hcv, ha16, hbit⟩ := hJ.ne.get hv
  have hand := u32_and_nat av t (by omega) (by have := hJ.t16; omega)
  have HD : Hid ((((av &&& t : Nat) : Int) != 0) = dec (JnV E t v)) := Lib.hid (by
    by_cases h : JnV E t v
    · rw [dec_true h]
      obtain ⟨u, h1, h2⟩ := h
      have h3 : av &&& t ≠ 0 := fun h0 => and_zero_iff.1 h0 u ⟨by rw [hbit u, h2]; simp [hJ.tn u h1], h1⟩
      simp
      omega
    · rw [dec_false h]
      have h3 : av &&& t = 0 := and_zero_iff.2 fun u ⟨h1, h2⟩ => h ⟨u, h2, by
        rw [hbit u, Bool.and_eq_true] at h1
        exact h1.2⟩
      rw [h3]; rfl)
  clear hbit hJ
  generalize (av &&& t : Nat) = avt at hand HD
  go_enter Tryd.func134, Tryd.ntmps134
  go_upto_region 1 with fail
  go_region_held3 (fun w' => w'.cell? ⟨ba, 0, none⟩ = some (.slice (some ⟨nb, no, none⟩) n xc) ∧ w'.cell? ⟨bt, 0, none⟩ = some (.int .u32 (t : Int)) ∧ w'.cell? ⟨nb, no + v, none⟩ = some (.int .u32 (av : Int)))
    (first | exact ⟨hca, hct, hcv⟩ | go_keep)
    (fail)
  all_goals go_wp2
  all_goals go_ret
  all_goals exact ⟨ret_bool HD.out, below_dN (Below.refl _ _) _⟩

set_option maxRecDepth 100000 in
set_option maxHeartbeats 2000000 in
theorem indexJn_any (lv : Value) (l : List Nat) (n : Nat) (E : Nat → Nat → Bool) (t ba bt : Nat) (xp : Option Addr) (xc : Nat) (hl : ∀ v ∈ l, v < n) (h32 : l.length ≤ 32) (w : World) (hn : Nums w 3 .i64 lv (natInts l)) (hJ : JnB w n E t ba bt xp xc) :
    Calls Tryd.prog 148 #[lv, .func (.func 134) #[] #[.pointer (some ⟨ba, 0, none⟩), .pointer (some ⟨bt, 0, none⟩)]] w fun e w' =>
      ∃ z : Int, e = .returned (.int .i64 z) ∧ (0 ≤ z ↔ ∃ v ∈ l, JnV E t v) ∧ Below w.heap.size w w' := by
  obtain ⟨lp, lc, rfl, _⟩ := id hn.shape
  have HN := Lib.hid hn
  have HJ := Lib.hid hJ
  have HL := Lib.hid hl
  have hnl := natInts_length l
  rw [hnl] at HN ⊢
  clear hn hJ hl hnl
  go_enter Tryd.func148, Tryd.ntmps148
  go_wp2
  go_loopw [8] (fun i wr => ∃ k : Nat, k ≤ l.length ∧ i = .int .i64 k ∧ Hid (∀ v ∈ l.take k, ¬ JnV E t v) ∧ Below w.heap.size w wr) (fun i _ => l.length - (intOf i).toNat)
  case atStart => exact ⟨0, Nat.zero_le _, rfl, Lib.hid (fun v hv => by simp at hv), Below.refl _ _⟩
  case round =>
    obtain ⟨k, hk, rfl, HNO, hb⟩ := hrel
    have HB := Lib.hid hb
    by_cases hlt : k < l.length
    · obtain ⟨qb, qo, rfl, hq⟩ := (HN.out.below hb).get (k := k) (by rw [natInts_length]; exact hlt)
      obtain ⟨v, hv⟩ : ∃ v, v = l[k] := ⟨_, rfl⟩
      rw [natInts_atJ hlt, ← hv] at hq
      have hvn : v < n := by rw [hv]; exact HL.out _ (List.getElem_mem hlt)
      have HMEM := Lib.hid (show v ∈ l by rw [hv]; exact List.getElem_mem hlt)
      have HTK : Hid (l.take (k + 1) = l.take k ++ [v]) := Lib.hid (by rw [take_snoc' l k hlt, hv])
      clear hv hb
      by_cases hj : JnV E t v
      · have HJV := Lib.hid hj
        have hd := Lib.hid (dec_true hj)
        clear hj
        go_wp2_with (go_at_call 134; refine (joinV_any _ v n E t ba bt xp xc rfl hvn _ (HJ.out.next HB.out)).mono ?_; rintro e w2 ⟨he, hb2⟩; rw [hd.out] at he; subst he)
        go_ret
        exact ⟨k, rfl, ⟨fun _ => ⟨v, HMEM.out, HJV.out⟩, fun _ => by omega⟩, HB.out.trans (hb2.mono HB.out.size)⟩
      · have HJV := Lib.hid hj
        have hd := Lib.hid (dec_false hj)
        clear hj
        go_wp2_with (go_at_call 134; refine (joinV_any _ v n E t ba bt xp xc rfl hvn _ (HJ.out.next HB.out)).mono ?_; rintro e w2 ⟨he, hb2⟩; rw [hd.out] at he; subst he)
        go_roundw
        case rel => exact ⟨k + 1, by omega, by go_num, Lib.hid (fun x hx => by
          rw [HTK.out] at hx
          rcases List.mem_append.1 hx with h | h
          · exact HNO.out x h
          · obtain rfl : x = v := by simpa using h
            exact HJV.out), HB.out.trans (hb2.mono HB.out.size)⟩
        case measure => simp [intOf]; omega
    · obtain rfl : k = l.length := by omega
      clear hb
      go_wp2
      go_ret
      exact ⟨-1, rfl, ⟨fun h => by omega, fun ⟨v, h1, h2⟩ => absurd h2 (HNO.out v (by rw [List.take_length]; exact h1))⟩, HB.out⟩

set_option maxRecDepth 100000 in
set_option maxHeartbeats 1000000 in
theorem containsJn_any (lv : Value) (l : List Nat) (n : Nat) (E : Nat → Nat → Bool) (t ba bt : Nat) (xp : Option Addr) (xc : Nat) (hl : ∀ v ∈ l, v < n) (h32 : l.length ≤ 32) (w : World) (hn : Nums w 3 .i64 lv (natInts l)) (hJ : JnB w n E t ba bt xp xc) :
    Calls Tryd.prog 133 #[lv, .func (.func 134) #[] #[.pointer (some ⟨ba, 0, none⟩), .pointer (some ⟨bt, 0, none⟩)]] w fun e w' =>
      e = .returned (.bool (dec (∃ v ∈ l, JnV E t v))) ∧ Below w.heap.size w w' := by
  have HN := Lib.hid hn
  have HJ := Lib.hid hJ
  clear hn hJ
  go_enter Tryd.func133, Tryd.ntmps133
  go_wp2_with (go_at_call 148; refine (indexJn_any _ l n E t ba bt xp xc hl h32 _ HN.out HJ.out).mono ?_; rintro e w2 ⟨z, rfl, hz, hb2⟩; have HZ := Lib.hid hz; clear hz)
  go_ret
  exact ⟨ret_bool (decide_dec_iff HZ.out), hb2⟩

set_option maxRecDepth 100000 in
set_option maxHeartbeats 1000000 in
theorem areJoined_any (x : Value) (y z : Int) (n : Nat) (E : Nat → Nat → Bool) (s t : Nat) (hy : y = s) (hz : z = t) (hs : s < 65536) (ht : t < 65536) (hsn : ∀ i, s.testBit i = true → i < n) (htn : ∀ i, t.testBit i = true → i < n) (w : World) (hx : NE w x n E) (hT : Tab w) :
    Calls Tryd.prog 96 #[x, .int .u32 y, .int .u32 z] w fun e w' => e = .returned (.bool (dec (JnM E s t))) ∧ Below w.heap.size w w' := by
  subst hy; subst hz
  obtain ⟨xp, xc, rfl⟩ : ∃ p c, x = .slice p n c := by obtain ⟨p, c, e, _⟩ := hx.sl; exact ⟨p, c, e⟩
  obtain ⟨W0, hW0⟩ : ∃ W0, W0 = (w.alloc (.cells #[.slice xp n xc] 61)).alloc (.cells #[.int .u32 (t : Int)] 64) := ⟨_, rfl⟩
  have HBA : Hid (Below w.heap.size w W0) := Lib.hid (by rw [hW0]; exact below_alloc2 _ _ _)
  have HJ : Hid (JnB W0 n E t w.heap.size (w.heap.size + 1) xp xc) := Lib.hid ⟨by rw [hW0]; exact (Box.new _ _ _).alloc _, hx.next HBA.out, by
    rw [hW0]
    have := Box.new (w.alloc (.cells #[.slice xp n xc] 61)) (.int .u32 (t : Int)) 64
    rw [size_alloc] at this
    exact this, ht, htn⟩
  have HT := Lib.hid (hT.keep HBA.out)
  have HL : Hid (∀ v ∈ bitsOf s, v < n) := Lib.hid (fun v hv => hsn v ((mem_left hs).1 hv))
  have hlen : (bitsOf s).length ≤ 32 := bitsOf_length s
  have HD : Hid (dec (∃ v ∈ bitsOf s, JnV E t v) = dec (JnM E s t)) := Lib.hid (dec_congr ⟨fun ⟨v, h1, h2⟩ => ⟨v, (mem_left hs).1 h1, h2⟩, fun ⟨v, h1, h2⟩ => ⟨v, (mem_left hs).2 h1, h2⟩⟩)
  clear hx hT hsn htn
  go_enter Tryd.func96, Tryd.ntmps96
  go_upto_region 1 with fail
  rw [← hW0]
  clear hW0
  go_wp2_with (first
    | (go_at_call 48; refine (list_any _ s rfl (by omega) _ HT.out).mono ?_; rintro e w3 ⟨lv, rfl, ho3, hb3⟩; have HN3 := Lib.hid (numsInt_of _ _ _ _ ho3 (by omega)); have HJ3 := Lib.hid (HJ.out.next hb3); have HB3 := Lib.hid (HBA.out.trans (hb3.mono HBA.out.size)); clear ho3 hb3)
    | (go_at_call 133; refine (containsJn_any _ (bitsOf s) n E t w.heap.size (w.heap.size + 1) xp xc HL.out hlen _ HN3.out HJ3.out).mono ?_; rintro e w5 ⟨he5, hb5⟩; rw [HD.out] at he5; subst he5))
  go_ret
  exact ⟨rfl, HB3.out.trans (hb5.mono HB3.out.size)⟩

theorem joinM_iff {g : List (List Int)} (hg : GOk g) {A B : List Int} (hA : SetIn g.length A) (hB : SetIn g.length B) : JnM (ofG g) (mask A) (mask B) ↔ JoinP g A B := by
  have kA := bit_mask fun x hx => (hA.1 x hx).1
  have kB := bit_mask fun x hx => (hB.1 x hx).1
  constructor
  · rintro ⟨v, h1, u, h2, h3⟩
    simp only [ofG, decide_eq_true_eq] at h3
    exact ⟨_, (kA v).1 h1, _, (kB u).1 h2, by simpa using h3⟩
  · rintro ⟨x, hx, y, hy, h⟩
    have hx0 := (hA.1 x hx).1
    have hy0 := (hB.1 y hy).1
    have ex : ((x.toNat : Nat) : Int) = x := by omega
    have ey : ((y.toNat : Nat) : Int) = y := by omega
    exact ⟨x.toNat, (kA _).2 (by rw [ex]; exact hx), y.toNat, (kB _).2 (by rw [ey]; exact hy), by simp only [ofG, decide_eq_true_eq]; rw [ey]; exact h⟩

end Go.Proofs.YtfokiijcpkhllaaDoor
