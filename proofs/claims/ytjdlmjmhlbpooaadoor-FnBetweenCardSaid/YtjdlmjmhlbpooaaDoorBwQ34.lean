/- Walk: the program's bridges. -/
import Derived.Test.YtjdlmjmhlbpooaaDoorBwQ33
import Derived.Deep.RegionHeld3
import Derived.Deep.DeepCutAuto
namespace Go.Proofs.YtjdlmjmhlbpooaaDoor
open Go.RowKit

theorem bits_all {n : Nat} (hn : n ≤ 16) {W : Nat} (hW : W = 2 ^ n - 1) : bitsOf W = List.range n := by
  have h16 : W < 65536 := by
    have : 2 ^ n ≤ 2 ^ 16 := Nat.pow_le_pow_right (by decide) hn
    have h2 : (2 : Nat) ^ 16 = 65536 := by decide
    have : 0 < 2 ^ n := Nat.pow_pos (by decide)
    omega
  refine rising_ext _ _ (bitsOf_rising _) List.pairwise_lt_range fun i => ?_
  rw [mem_left h16, hW, testBit_firstOf]
  simp
theorem all_lt {n : Nat} (hn : n ≤ 16) {W : Nat} (hW : W = 2 ^ n - 1) : W < 65536 ∧ (∀ i, W.testBit i = true → i < n) ∧ ∀ i, i < n → W.testBit i = true := by
  have : 2 ^ n ≤ 2 ^ 16 := Nat.pow_le_pow_right (by decide) hn
  have h2 : (2 : Nat) ^ 16 = 65536 := by decide
  have : 0 < 2 ^ n := Nat.pow_pos (by decide)
  refine ⟨by omega, fun i hi => ?_, fun i hi => ?_⟩
  · rw [hW, testBit_firstOf] at hi; simpa using hi
  · rw [hW, testBit_firstOf]; simpa using hi
theorem PrsO.otherT {w w' : World} {base base2 : Nat} {ev v : Value} {l : List (Nat × Nat)} {n : Nat} {xs : List Value} (h : PrsO w base ev l) (ho : w.ownsRow base2 69 1 v n xs) (hg : w.grownBy w' v.ownBlock) : PrsO w' base ev l := by
  obtain ⟨vals, h1, h2, h3⟩ := h
  exact ⟨vals, h1, ownsRow_other h2 ho hg (by decide), fun j hj => (h3 j hj).other ho hg (by decide)⟩
theorem PrsO.keptO {w w' : World} {base base2 : Nat} {ev v : Value} {l : List (Nat × Nat)} {n : Nat} {xs : List Value} (h : PrsO w base ev l) (ho : w.ownsRow base2 26 1 v n xs) (hg : w.grownBy w' v.ownBlock) (hne : ∀ b, ev.ownBlock = some b → v.ownBlock ≠ some b) : PrsO w' base ev l := by
  obtain ⟨vals, h1, h2, h3⟩ := h
  refine ⟨vals, h1, h2.kept hg ?_, fun j hj => (h3 j hj).other ho hg (by decide)⟩
  cases hb : ev.ownBlock with
  | none => exact .inl rfl
  | some b => exact .inr fun e => hne b hb e.symm

/-- What the loop over the edges carries. -/
structure BrI (w wr : World) (x ev ov : Value) (B Bx Be : Nat) (n : Nat) (E : Nat → Nat → Bool) (t : Nat) : Prop where
  net : wr.ownsRow Bx 69 1 x n ((indN n E).map u32v)
  edg : PrsO wr Be ev (edN n E n)
  out : PrsO wr B ov (brdL n E ((edN n E n).take t))
  far : ∀ b, ev.ownBlock = some b → ov.ownBlock ≠ some b
  bel : Below w.heap.size w wr
  tab : Tab wr
  tpos : 0 < w.heap.size
  b1 : w.heap.size ≤ B
  b2 : w.heap.size ≤ Bx
  b3 : B ≤ wr.heap.size

theorem BrI.next {w wr wx : World} {x ev ov : Value} {B Bx Be n : Nat} {E : Nat → Nat → Bool} {t : Nat} (h : BrI w wr x ev ov B Bx Be n E t) (hb : Below wr.heap.size wr wx) : BrI w wx x ev ov B Bx Be n E t :=
  ⟨ownsRow_below h.net hb, h.edg.below hb, h.out.below hb, h.far, h.bel.trans (hb.mono h.bel.size), h.tab.keep hb, h.tpos, h.b1, h.b2, Nat.le_trans h.b3 hb.size⟩
/-- While an edge is cut. -/
structure BrC (w wr : World) (x ev ov : Value) (B Bx Be : Nat) (n : Nat) (E : Nat → Nat → Bool) (l : List (Nat × Nat)) (F : Nat → Nat → Bool) : Prop where
  net : wr.ownsRow Bx 69 1 x n ((indN n F).map u32v)
  edg : PrsO wr Be ev (edN n E n)
  out : PrsO wr B ov l
  far : ∀ b, ev.ownBlock = some b → ov.ownBlock ≠ some b
  bel : Below w.heap.size w wr
  tab : Tab wr
  tpos : 0 < w.heap.size
  b1 : w.heap.size ≤ B
  b2 : w.heap.size ≤ Bx
  b3 : B ≤ wr.heap.size
theorem BrC.next {w wr wx : World} {x ev ov : Value} {B Bx Be n : Nat} {E F : Nat → Nat → Bool} {l : List (Nat × Nat)} (h : BrC w wr x ev ov B Bx Be n E l F) (hb : Below wr.heap.size wr wx) : BrC w wx x ev ov B Bx Be n E l F :=
  ⟨ownsRow_below h.net hb, h.edg.below hb, h.out.below hb, h.far, h.bel.trans (hb.mono h.bel.size), h.tab.keep hb, h.tpos, h.b1, h.b2, Nat.le_trans h.b3 hb.size⟩
theorem BrC.turn {w wr wx : World} {x ev ov : Value} {B Bx Be n : Nat} {E F F' : Nat → Nat → Bool} {l : List (Nat × Nat)} (h : BrC w wr x ev ov B Bx Be n E l F) (ho : wx.ownsRow Bx 69 1 x n ((indN n F').map u32v)) (hg : wr.grownBy wx x.ownBlock) : BrC w wx x ev ov B Bx Be n E l F' :=
  ⟨ho, h.edg.otherT h.net hg, h.out.otherT h.net hg, h.far, below_grown h.bel h.net hg h.b2 h.bel.size, h.tab.grownP hg (fun e => by
    have e' : x.ownBlock = some 0 := e.symm
    have := (h.net.lt _ e').1
    have := h.b2
    have := h.tpos
    omega), h.tpos, h.b1, h.b2, Nat.le_trans h.b3 hg.size⟩
theorem BrC.put {w wr wx : World} {x ev ov rv : Value} {B Bx Be n b7 c7 : Nat} {E F : Nat → Nat → Bool} {l : List (Nat × Nat)} {e : Nat × Nat} {vals : List Value} (h : BrC w wr x ev ov B Bx Be n E l F) (hv : vals.length = l.length) (ho : wr.ownsRow B 26 1 ov l.length vals) (hr : ∀ j, j < l.length → Nums wr 2 .i64 (vals.getD j undef) (row (prsL l) j))
    (hn : Nums wr 2 .i64 rv [(e.1 : Int), (e.2 : Int)]) (ho' : wx.ownsRow B 26 1 (.slice (some ⟨b7, 0, none⟩) (l.length + 1) c7) (l.length + 1) (vals ++ [rv])) (hg : wr.grownBy wx ov.ownBlock) (hb7 : ov.ownBlock = some b7 ∨ wr.heap.size < b7) :
    BrC w wx x ev (.slice (some ⟨b7, 0, none⟩) (l.length + 1) c7) B Bx Be n E (l ++ [e]) F := by
  refine ⟨ownsRow_other h.net ho hg (by decide), h.edg.keptO ho hg h.far, PrsO.snoc hv ho hr ho' hg hn, fun b hb he => ?_, below_grown h.bel ho hg h.b1 h.bel.size, h.tab.grownP hg (fun e => by
    have e' : ov.ownBlock = some 0 := e.symm
    have := (ho.lt _ e').1
    have := h.b1
    have := h.tpos
    omega), h.tpos, h.b1, h.b2, Nat.le_trans h.b3 hg.size⟩
  have e2 : b7 = b := by simpa [Value.ownBlock] using he
  subst e2
  rcases hb7 with h7 | h7
  · exact h.far _ hb h7
  · obtain ⟨vals2, _, h2, _⟩ := h.edg
    have := (h2.lt _ hb).2
    omega

set_option maxRecDepth 100000 in
set_option maxHeartbeats 4000000 in
theorem bridgesOf_any (v : Value) (g : List (List Int)) (hok : GOk g) (w : World) (hg : Gr w v g) (hT : Tab w) :
    Calls Tryd.prog 106 #[v] w fun e w' => ∃ u : Value, e = .returned u ∧ PrsO w' w.heap.size u (brdL g.length (ofG g) (edN g.length (ofG g) g.length)) ∧ Tab w' ∧ Below w.heap.size w w' := by
  have hg0 := hg
  obtain ⟨u, rfl, hr⟩ := hg
  obtain ⟨p, c, rfl, _⟩ := hr.shape
  have h16 := hok.le
  have hbA := Lib.hid (below_alloc w (.cells #[.slice p g.length c] 29))
  have HG := Lib.hid (hg0.below hbA.out)
  have BX := Lib.hid (Box.new w (.slice p g.length c) 29)
  have HT := Lib.hid (hT.keep hbA.out)
  have HTP := Lib.hid hT.pos
  have HOK := Lib.hid hok
  obtain ⟨W, hW⟩ : ∃ W, W = 2 ^ g.length - 1 := ⟨_, rfl⟩
  have HW := Lib.hid hW
  have HLE : Hid ((edN g.length (ofG g) g.length).length ≤ 256) := Lib.hid (by
    have := edN_length g.length (ofG g) g.length
    have : g.length * g.length ≤ 16 * 16 := Nat.mul_le_mul h16 h16
    omega)
  clear hr hg0 hok hT hW
  go_enter Tryd.func106, Tryd.ntmps106
  go_wp2_with (first
    | (go_at_call 57; refine (netsOf_any _ g _ HG.out HOK.out).mono ?_; rintro e w2 ⟨x, rfl, hown2, hb2⟩; obtain ⟨xp, xc, rfl⟩ := owns_shapeA hown2; have hbx := (BX.out.keep hb2).cell; have hbx2 := fun o => (below_alloc w2 o).at' hbx)
    | (go_at_call 90; refine (edgesC_any _ g HOK.out _ ((HG.out.below hb2).below (below_alloc w2 (.cells #[] 26)))).mono ?_; rintro e w3 ⟨ev, rfl, hpe, hb3⟩; have HPE := Lib.hid hpe; obtain ⟨ep, ec, rfl⟩ := hpe.shape; clear hpe))
  have hb23 := hb3.mono (show (w2.alloc (.cells #[] 26)).heap.size ≥ w2.heap.size by rw [size_alloc]; omega)
  have s2 := hb2.size
  rw [size_alloc] at s2
  have s3 := hb3.size
  rw [size_alloc] at s3
  have START : Hid (BrC w w3 (.slice xp g.length xc) (.slice ep (edN g.length (ofG g) g.length).length ec) (.slice (some ⟨w2.heap.size, 0, none⟩) 0 0) w2.heap.size (w.alloc (.cells #[.slice p g.length c] 29)).heap.size (w2.alloc (.cells #[] 26)).heap.size g.length (ofG g) (brdL g.length (ofG g) ((edN g.length (ofG g) g.length).take 0)) (ofG g)) := Lib.hid
    { net := by
        rw [indN_ofG HOK.out]
        exact ownsRow_below (hown2.alloc _) hb3
      edg := HPE.out
      out := by
        have := (PrsO.nil w2 w2.heap.size (Nat.le_refl _)).below hb3
        rw [List.take_zero]
        exact this
      far := fun b hb he => by
        obtain ⟨vals2, _, h2, _⟩ := HPE.out
        have h3 := (h2.lt _ hb).1
        have e2 : w2.heap.size = b := by simpa [Value.ownBlock] using he
        rw [size_alloc] at h3
        omega
      bel := (hbA.out.trans (hb2.mono hbA.out.size)).trans ((below_alloc w2 _).trans (hb3.mono (by rw [size_alloc]; omega)) |>.mono (by omega))
      tab := ((HT.out.keep hb2).keep (below_alloc w2 _)).keep hb3
      tpos := HTP.out
      b1 := by omega
      b2 := by rw [size_alloc]; omega
      b3 := by omega }
  have hn0 := g.length
  clear hb2 hb3 hb23 hown2 hbx hbx2
  generalize (w.alloc (.cells #[.slice p g.length c] 29)).heap.size = Bx at START
  generalize (w2.alloc (.cells #[] 26)).heap.size = Be at START
  go_loopw [4, 15] (fun s4 i wr => ∃ t : Nat, t ≤ (edN g.length (ofG g) g.length).length ∧ i = .int .i64 t ∧ BrC w wr (.slice xp g.length xc) (.slice ep (edN g.length (ofG g) g.length).length ec) s4 w2.heap.size Bx Be g.length (ofG g) (brdL g.length (ofG g) ((edN g.length (ofG g) g.length).take t)) (ofG g))
    (fun _ i _ => (edN g.length (ofG g) g.length).length - (intOf i).toNat)
  case atStart => exact ⟨0, Nat.zero_le _, rfl, START.out⟩
  case round =>
    clear START
    obtain ⟨t, ht, rfl, hI⟩ := hrel
    obtain ⟨op, oc, rfl⟩ := hI.out.shape
    have HI := Lib.hid hI
    have hle256 := HLE.out
    by_cases hlt : t < (edN g.length (ofG g) g.length).length
    · obtain ⟨eb, eo, rp, rc, rfl, hce, hne⟩ := hI.edg.get hlt
      have hmem := mem_edN (Nat.le_refl _) (List.getElem_mem hlt)
      have htk := Lib.hid (take_snoc (edN g.length (ofG g) g.length) t hlt)
      obtain ⟨⟨a, b⟩, hab⟩ : ∃ e : Nat × Nat, e = (edN g.length (ofG g) g.length)[t] := ⟨_, rfl⟩
      rw [← hab] at hmem hne htk
      obtain ⟨ha, hb, hlt2, hE⟩ := hmem
      simp only at ha hb hlt2 hE hne
      obtain ⟨rb, ro, rfl, hc0⟩ := hne.get (k := 0) (by simp)
      obtain ⟨_, _, e1, hc1⟩ := hne.get (k := 1) (by simp)
      cases e1
      have HNE := Lib.hid hne
      have HEE := Lib.hid hE
      have HES := Lib.hid (ofG_sym HOK.out a b hE)
      simp only [List.getElem_cons_zero, List.getElem_cons_succ, Nat.add_zero] at hc0 hc1
      clear hI hne hab hE
      go_upto_region 5 with fail
      go_cut [7, 8] (fun s7 s8 wx => s7 = .int .i64 a ∧ s8 = .int .i64 b ∧ Below wr.heap.size wr wx)
      case first =>
        go_region_held3 (fun w' => w'.cell? ⟨rb, ro, none⟩ = some (.int .i64 a) ∧ w'.cell? ⟨rb, ro + 1, none⟩ = some (.int .i64 b))
          (first | go_keep | exact ⟨hc0, hc1⟩)
          (fail)
        all_goals go_wp2
        all_goals go_meet
        all_goals exact ⟨rfl, rfl, below_dN (Below.refl _ _) _⟩
      case rest =>
        obtain ⟨rfl, rfl, hbc⟩ := hcut
        have HIc := Lib.hid (HI.out.next hbc)
        have HNEc := Lib.hid (HNE.out.below hbc)
        have hne2 : a ≠ b := by omega
        obtain ⟨aW1, aW2, aW3⟩ := all_lt h16 HW.out
        have hbits := bits_all h16 HW.out
        have HPT : Hid (∀ wz, wz = wc → Calls Tryd.prog 66 #[.slice xp g.length xc, .int .i64 a, .int .i64 b] wz fun e w' => e = .returned (.tuple #[]) ∧ Nums w' 2 .i64 (.slice (some ⟨rb, ro, none⟩) 2 rc) [(a : Int), (b : Int)] ∧ BrC w w' (.slice xp g.length xc) (.slice (some ⟨eb, eo, none⟩) (edN g.length (ofG g) g.length).length ec) (.slice op (brdL g.length (ofG g) ((edN g.length (ofG g) g.length).take t)).length oc) w2.heap.size Bx Be g.length (ofG g) (brdL g.length (ofG g) ((edN g.length (ofG g) g.length).take t)) (cutE (ofG g) a b)) := Lib.hid (by
          rintro wz rfl
          have h := part_any (.slice xp g.length xc) a b (indN g.length (ofG g)) a b Bx rfl rfl (by rw [indN_length]; exact ha) (by rw [indN_length]; exact hb) hne2 (by rw [indN_length]; exact h16) (indN_lt16 h16) wz (by rw [indN_length]; exact HIc.out.net)
          rw [indN_length, partN_indN h16 ha hb hne2] at h
          exact h.mono fun e w' ⟨h1, h2, h3⟩ => ⟨h1, HNEc.out.other HIc.out.net h3 (by decide), HIc.out.turn h2 h3⟩)
        have HJN : Hid (∀ (l : List (Nat × Nat)) (ov : Value) wz, BrC w wz (.slice xp g.length xc) (.slice (some ⟨eb, eo, none⟩) (edN g.length (ofG g) g.length).length ec) ov w2.heap.size Bx Be g.length (ofG g) l (cutE (ofG g) a b) → Calls Tryd.prog 67 #[.slice xp g.length xc, .int .i64 a, .int .i64 b] wz fun e w' => e = .returned (.tuple #[]) ∧ BrC w w' (.slice xp g.length xc) (.slice (some ⟨eb, eo, none⟩) (edN g.length (ofG g) g.length).length ec) ov w2.heap.size Bx Be g.length (ofG g) l (ofG g)) := Lib.hid (by
          intro l ov wz hz
          have h := join_any (.slice xp g.length xc) a b (indN g.length (cutE (ofG g) a b)) a b Bx rfl rfl (by rw [indN_length]; exact ha) (by rw [indN_length]; exact hb) hne2 (by rw [indN_length]; exact h16) (indN_lt16 h16) wz (by rw [indN_length]; exact hz.net)
          rw [indN_length, joinL_cut ha hb hne2 HEE.out HES.out] at h
          exact h.mono fun e w' ⟨h1, h2, h3⟩ => ⟨h1, hz.turn h2 h3⟩)
        have AW1 := Lib.hid aW1
        have AW2 := Lib.hid aW2
        have AW3 := Lib.hid (aW3 a ha)
        have HBITS := Lib.hid hbits
        have hb32 : b < 32 := by omega
        have hll : (brdL g.length (ofG g) ((edN g.length (ofG g) g.length).take t)).length < 1000000000 := by
          have h1 := brdL_length g.length (ofG g) ((edN g.length (ofG g) g.length).take t)
          rw [List.length_take] at h1
          have := HLE.out
          omega
        clear hc0 hc1 hbc aW1 aW2 aW3 hbits
        by_cases hB : Brd g.length (ofG g) (a, b)
        · have hdB := Lib.hid (brdL_snoc g.length (ofG g) ((edN g.length (ofG g) g.length).take t) (a, b))
          have hdt := Lib.hid (dec_true hB)
          have HMB : Hid (∀ m : Nat, (∀ i, m.testBit i = true ↔ i ∈ partL (cutE (ofG g) a b) (bitsOf W) a) → m.testBit b = false) := Lib.hid fun m hm => by
            rw [Bool.eq_false_iff]
            intro h
            have := (mem_partL.1 ((hm b).1 h)).2
            rw [HBITS.out] at this
            exact hB this
          clear hB
          go_wp2_with (first
            | (go_at_call 67; refine (HJN.out _ _ _ HI7.out).mono ?_; rintro e w8 ⟨rfl, hI8⟩)
            | (at_builtin; refine wpList_app1s ty_rows64 rfl rfl rfl hv2 rfl rfl hll hbl6 ?_; intro b7 c7 w7 hown7 hg7 hb7; have HI7 := Lib.hid (HI6.out.put (e := (a, b)) HV1.out hv2 HV3.out (HN5.out.below hb6) hown7 hg7 hb7))
            | (go_at_call 101; refine (has_any _ _ m b rfl rfl (by omega) hb32 _).mono ?_; rintro e w6h ⟨he, rfl⟩; rw [hmB] at he; subst he)
            | (go_at_call 100; refine (reach_any _ _ _ g.length (cutE (ofG g) a b) a W rfl rfl AW1.out AW2.out AW3.out _ ⟨h16, Sl.of_owns HI5.out.net (by omega)⟩ HI5.out.tab).mono ?_; rintro e w6 ⟨m, rfl, hm16, hmb, hb6⟩; have hmB := HMB.out m hmb; clear hmb; have HI6 := Lib.hid (HI5.out.next hb6); obtain ⟨vals, hv1, hv2, hv3⟩ := HI6.out.out; have HV1 := Lib.hid hv1; have HV3 := Lib.hid hv3; clear hv1 hv3; have hbl6 := HI6.out.b3)
            | (go_at_call 60; refine (all_any _ _ _ (by omega) _).mono ?_; rintro e wA ⟨he, rfl⟩; rw [← HW.out] at he; subst he)
            | (go_at_call 66; refine (HPT.out _ rfl).mono ?_; rintro e w5 ⟨rfl, hN5, hI5⟩; have HI5 := Lib.hid hI5; have HN5 := Lib.hid hN5; clear hI5 hN5))
          go_roundw
          case rel => exact ⟨t + 1, by omega, by go_num, by rw [htk.out, hdB.out, if_pos hdt.out]; exact hI8⟩
          case measure => simp [intOf]; omega
        · have hdB := Lib.hid (brdL_snoc g.length (ofG g) ((edN g.length (ofG g) g.length).take t) (a, b))
          have hdt := Lib.hid (dec_false hB)
          have HMB : Hid (∀ m : Nat, (∀ i, m.testBit i = true ↔ i ∈ partL (cutE (ofG g) a b) (bitsOf W) a) → m.testBit b = true) := Lib.hid fun m hm => by
            refine (hm b).2 (mem_partL.2 ⟨?_, ?_⟩)
            · rw [HBITS.out]; simpa using hb
            · rw [HBITS.out]; exact Classical.not_not.1 hB
          clear hB
          go_wp2_with (first
            | (go_at_call 67; refine (HJN.out _ _ _ HI6.out).mono ?_; rintro e w8 ⟨rfl, hI8⟩)
            | (go_at_call 101; refine (has_any _ _ m b rfl rfl (by omega) hb32 _).mono ?_; rintro e w6h ⟨he, rfl⟩; rw [hmB] at he; subst he)
            | (go_at_call 100; refine (reach_any _ _ _ g.length (cutE (ofG g) a b) a W rfl rfl AW1.out AW2.out AW3.out _ ⟨h16, Sl.of_owns HI5.out.net (by omega)⟩ HI5.out.tab).mono ?_; rintro e w6 ⟨m, rfl, hm16, hmb, hb6⟩; have hmB := HMB.out m hmb; clear hmb; have HI6 := Lib.hid (HI5.out.next hb6))
            | (go_at_call 60; refine (all_any _ _ _ (by omega) _).mono ?_; rintro e wA ⟨he, rfl⟩; rw [← HW.out] at he; subst he)
            | (go_at_call 66; refine (HPT.out _ rfl).mono ?_; rintro e w5 ⟨rfl, hN5, hI5⟩; have HI5 := Lib.hid hI5; have HN5 := Lib.hid hN5; clear hI5 hN5))
          go_roundw
          case rel => exact ⟨t + 1, by omega, by go_num, by rw [htk.out, hdB.out, if_neg (by rw [hdt.out]; decide)]; exact hI8⟩
          case measure => simp [intOf]; omega
    · obtain rfl : t = (edN g.length (ofG g) g.length).length := by omega
      clear hI
      go_wp2
      go_ret
      have hout := HI.out.out
      rw [List.take_length] at hout
      exact ⟨_, rfl, by rw [List.take_length]; exact hout.base HI.out.b1, HI.out.tab, HI.out.bel⟩

end Go.Proofs.YtjdlmjmhlbpooaaDoor
