/- Walks: the reference's pair of vertices, and the cut of an edge. -/
import Derived.Test.YtkppbmfliejnmaaDoorLpQ30
import Derived.Test.YtkppbmfliejnmaaDoorLpQ10
import Derived.Test.YtkppbmfliejnmaaDoorLpQ29
import Derived.Test.YtkppbmfliejnmaaDoorLpQ8
import Derived.Test.YtkppbmfliejnmaaDoorLpQ25
import Derived.Test.YtkppbmfliejnmaaDoorLpQ16
namespace Go.Proofs.YtkppbmfliejnmaaDoor
open Go.RowKit

theorem L2I.row_to {W0 wr w2 : World} {b5 ob c m : Nat} {g : List (List Int)} (hm : m = g.length) (h : L2I W0 wr b5 (some ⟨ob, 0, none⟩) c m g) (hb : Below wr.heap.size wr w2) {rv : Value} {s : List Int} (hn : Nums w2 2 .i64 rv s) {u : Nat} (hu : u < g.length) :
    L2I W0 (w2.setCell ⟨ob, u, none⟩ rv) b5 (some ⟨ob, 0, none⟩) c m (g.set u s) := by
  subst hm
  have hob := h.own ob rfl
  refine ⟨?_, (h.bel.trans (hb.mono h.bel.size)).setCell hob.1 _, (h.box.keep hb).setOther (by show b5 ≠ ob; omega) _, h.own, h.b5⟩
  obtain ⟨_, vals, h1, hl, ho, hr⟩ := h.sg
  cases h1
  have ho' := ownsRow_below ho hb
  obtain ⟨ho2, hg2⟩ := ho'.stored u rv
  refine ⟨_, vals.set u rv, rfl, by simp [hl], by rw [List.length_set]; exact ho2, fun j hj => ?_⟩
  rw [List.length_set] at hj
  rw [row_set _ _ _ _ hu]
  by_cases e : j = u
  · subst e
    rw [if_pos rfl]
    have : (vals.set j rv).getD j undef = rv := by simp [hl, hj]
    rw [this]
    exact hn.other ho' hg2 (by decide)
  · rw [if_neg e]
    have : (vals.set u rv).getD j undef = vals.getD j undef := by simp [show ¬ u = j from fun q => e q.symm]
    rw [this]
    exact ((hr j hj).below hb).other ho' hg2 (by decide)
theorem L2I.rowAt {W0 wr : World} {b5 ob c m : Nat} {g : List (List Int)} (hm : m = g.length) (h : L2I W0 wr b5 (some ⟨ob, 0, none⟩) c m g) {u : Nat} (hu : u < g.length) :
    ∃ (rp : Option Addr) (rc : Nat), wr.cell? ⟨ob, u, none⟩ = some (.slice rp (row g u).length rc) ∧ Nums wr 2 .i64 (.slice rp (row g u).length rc) (row g u) := by
  subst hm
  obtain ⟨_, vals, h1, hl, ho, hr⟩ := h.sg
  cases h1
  obtain ⟨rp, rc, hrs, _⟩ := (hr u hu).shape
  have hcu := ho.cellAt u (by omega)
  rw [get_getD vals u undef (by rw [hl]; exact hu), hrs] at hcu
  have hn := hr u hu
  rw [hrs] at hn
  exact ⟨rp, rc, hcu, hn⟩
theorem L2I.thaw {W0 wr : World} {b5 ob c m : Nat} {g : List (List Int)} (hm : m = g.length) (h : L2I W0 wr b5 (some ⟨ob, 0, none⟩) c m g) (u : Nat) : wr.frozen? ⟨ob, u, none⟩ = false := by
  subst hm
  obtain ⟨_, vals, h1, hl, ho, hr⟩ := h.sg
  cases h1
  exact ho.frozenAt u
theorem cut_matG {n a b : Nat} {E : Nat → Nat → Bool} (hab : a ≠ b) (ha : a < n) (hb : b < n) :
    ((matG n E).set a (natInts (((List.range n).filter (E a)).filter fun x => x != b))).set b (natInts (((List.range n).filter (E b)).filter fun x => x != a)) = matG n (cutE E a b) := by
  refine graph_ext (by simp [matG_length]) fun r hr => ?_
  simp only [List.length_set, matG_length] at hr
  rw [row_set _ _ _ _ (by simp [matG_length]; exact hb), row_set _ _ _ _ (by rw [matG_length]; exact ha), row_matG hr, row_matG hr]
  have key : ∀ p q, r = p → p ≠ q → ((List.range n).filter (E p)).filter (fun x => x != q) = (List.range n).filter (fun j => E r j && !((r == p && j == q) || (r == q && j == p))) := by
    intro p q e hpq
    subst e
    rw [List.filter_filter]
    refine List.filter_congr fun j _ => ?_
    have : (r == q) = false := beq_eq_false_iff_ne.2 hpq
    simp only [beq_self_eq_true, Bool.true_and, this, Bool.false_and, Bool.or_false, bne, Bool.and_comm]
  by_cases e1 : r = b
  · rw [if_pos e1, key b a e1 (Ne.symm hab)]
    congr 1
    refine List.filter_congr fun j _ => ?_
    unfold cutE
    rw [Bool.or_comm]
  · rw [if_neg e1]
    by_cases e2 : r = a
    · rw [if_pos e2, key a b e2 hab]
      rfl
    · rw [if_neg e2]
      congr 1
      refine List.filter_congr fun j _ => ?_
      unfold cutE
      have h1 : (r == a) = false := beq_eq_false_iff_ne.2 e2
      have h2 : (r == b) = false := beq_eq_false_iff_ne.2 e1
      simp [h1, h2]

set_option maxRecDepth 100000 in
set_option maxHeartbeats 2000000 in
theorem l2Pair_yes (v : Value) (g : List (List Int)) (y z : Int) (a b : Nat) (hy : y = a) (hz : z = b) (hok : GOk g) (ha : a < g.length) (hb : b < g.length) (hab : a ≠ b) (w : World) (hg : Gr w v g) :
    Calls Tryd.prog 215 #[v, .int .i64 y, .int .i64 z] w fun e w' => e = .returned (.bool true) ∧ Below w.heap.size w w' := by
  subst hy; subst hz
  have hg0 := hg
  obtain ⟨u, rfl, hr⟩ := hg
  obtain ⟨p, c, rfl, _⟩ := hr.shape
  have hbA := Lib.hid (below_alloc w (.cells #[.slice p g.length c] 29))
  have HG := Lib.hid (hg0.below hbA.out)
  have BX := Lib.hid (Box.new w (.slice p g.length c) 29)
  have h16 := hok.le
  have HD := Lib.hid (dec_true hok)
  have HDA := Lib.hid (dec_true (show (0 : Int) ≤ (a : Int) ∧ (a : Int) < g.length from ⟨by omega, by omega⟩))
  have HDB := Lib.hid (dec_true (show (0 : Int) ≤ (b : Int) ∧ (b : Int) < g.length from ⟨by omega, by omega⟩))
  have hne : ((a : Int) != (b : Int)) = true := bne_iff_ne.2 (by omega)
  clear hr hg0 hok
  go_enter Tryd.func215, Tryd.ntmps215
  go_wp2_with (first
    | (go_at_call 73; refine (specGraphOk_any _ g _ HG.out).mono ?_; rintro e w2 ⟨he, hb2⟩; rw [HD.out] at he; subst he; have c2 := (BX.out.keep hb2).cell)
    | (go_at_call 108; have hb3_ := hb3; refine (l1There_any _ g (b : Int) _ ((HG.out.below hb2).below hb3_) (by omega)).mono ?_; rintro e w4 ⟨he, hb4⟩; rw [HDB.out] at he; subst he; have c4 := hb4.at' c3)
    | (go_at_call 108; refine (l1There_any _ g (a : Int) _ (HG.out.below hb2) (by omega)).mono ?_; rintro e w3 ⟨he, hb3⟩; rw [HDA.out] at he; subst he; have c3 := hb3.at' c2))
  go_ret
  refine ⟨by first | rfl | simp [hne], ((hbA.out.trans (hb2.mono hbA.out.size)).trans (hb3.mono (Nat.le_trans hbA.out.size hb2.size))).trans (hb4.mono (Nat.le_trans (Nat.le_trans hbA.out.size hb2.size) hb3.size))⟩

set_option maxRecDepth 100000 in
set_option maxHeartbeats 4000000 in
theorem specCutEdge_yes (v : Value) (g : List (List Int)) (y z : Int) (a b : Nat) (hy : y = a) (hz : z = b) (hok : GOk g) (ha : a < g.length) (hb : b < g.length) (hE : ofG g a b = true) (w : World) (hg : Gr w v g) :
    Calls Tryd.prog 165 #[v, .int .i64 y, .int .i64 z] w fun e w' => ∃ u, e = .returned (.tuple #[u, .bool true]) ∧ SG w' w.heap.size u (matG g.length (cutE (ofG g) a b)) ∧ Below w.heap.size w w' := by
  subst hy; subst hz
  have hg0 := hg
  obtain ⟨u, rfl, hr⟩ := hg
  obtain ⟨gp, gc, rfl, _⟩ := hr.shape
  obtain ⟨W0, hW0, hbA, SZ0, B0, B1⟩ := two_boxesM w (.slice gp g.length gc) (.slice none 0 0) 29 29
  have HBA := Lib.hid hbA
  have HG := Lib.hid (hg0.below hbA)
  have HX0 := Lib.hid B0
  have HX1 := Lib.hid B1
  have HSZ := Lib.hid SZ0
  have h16 := hok.le
  have hab : a ≠ b := fun e => by rw [e, ofG_irr hok] at hE; cases hE
  have HDE := Lib.hid (dec_true (show (b : Int) ∈ row g a by simpa [ofG] using hE))
  have HOK := Lib.hid hok
  have HMG := Lib.hid (matG_ofG hok)
  clear hr hg0 hbA B0 B1 SZ0 hE
  go_enter Tryd.func165, Tryd.ntmps165
  go_upto_region 1 with fail
  rw [← hW0]
  clear hW0
  have c0 := HX0.out.cell
  go_upto_region 3 with (first
    | (go_at_call 215; refine (l2Pair_yes _ g _ _ a b rfl rfl HOK.out ha hb hab _ HG.out).mono ?_; rintro e w2 ⟨rfl, hb2⟩; have c2 := hb2.at' c0)
    | (go_at_call 109; refine (l1Edge_any _ g _ _ a b rfl rfl ha _ (HG.out.below hb2)).mono ?_; rintro e w3 ⟨he, hb3⟩; rw [HDE.out] at he; subst he; have c3 := hb3.at' c2))
  have HB2 := Lib.hid (hb2.trans (hb3.mono hb2.size))
  have HG2 := Lib.hid ((HG.out.below hb2).below hb3)
  clear hb2 hb3 c0
  go_upto_region 4 with (go_at_call 216; refine (l1CopyGraph_any _ g (by omega) (fun j => by have := gok_rowsMn HOK.out j; omega) _ HG2.out).mono ?_; rintro e w4 ⟨u4, rfl, hs4, hb4⟩; obtain ⟨p, c, rfl⟩ := hs4.shape)
  obtain ⟨ob, rfl⟩ : ∃ ob, p = some ⟨ob, 0, none⟩ := by
    obtain ⟨_, vals, h1, _, ho, _⟩ := hs4
    cases h1
    rcases ho.2 with ⟨_, h0⟩ | ⟨b, cc, _, h1, _⟩
    · omega
    · simp only [Value.slice.injEq] at h1
      exact ⟨b, h1.1⟩
  have START : Hid (L2I w3 (w4.alloc (.cells #[.slice (some ⟨ob, 0, none⟩) g.length c] 29)) w4.heap.size (some ⟨ob, 0, none⟩) c g.length (matG g.length (ofG g))) := Lib.hid
    ⟨by rw [HMG.out]; exact hs4.below (below_alloc _ _), hb4.alloc hb4.size _, Box.new _ _ _, hs4.lt, hb4.size⟩
  clear hs4 hb4 c2 c3
  generalize w4.alloc (.cells #[.slice (some ⟨ob, 0, none⟩) g.length c] 29) = W4 at *
  obtain ⟨b5, hb5⟩ : ∃ b5, b5 = w4.heap.size := ⟨_, rfl⟩
  rw [← hb5] at START ⊢
  clear hb5
  have ham : a < (matG g.length (ofG g)).length := by rw [matG_length]; exact ha
  have hbm : ∀ s, b < ((matG g.length (ofG g)).set a s).length := fun s => by simp [matG_length]; exact hb
  have bc := START.out.box.cell
  have bf := START.out.box.free
  obtain ⟨rp, rc, hcu, hnu⟩ := START.out.rowAt (matG_length _ _).symm ham
  rw [row_matG ha, natInts_length] at hcu hnu
  have HNU := Lib.hid hnu
  have hl1 : ((List.range g.length).filter (ofG g a)).length ≤ 1000 := Nat.le_trans (List.length_filter_le _ _) (by rw [List.length_range]; omega)
  have hl2 : ((List.range g.length).filter (ofG g b)).length ≤ 1000 := Nat.le_trans (List.length_filter_le _ _) (by rw [List.length_range]; omega)
  obtain ⟨lx, hlx⟩ : ∃ lx, lx = (((List.range g.length).filter (ofG g a)).filter fun x => x != b).length := ⟨_, rfl⟩
  obtain ⟨ly, hly⟩ : ∃ ly, ly = (((List.range g.length).filter (ofG g b)).filter fun x => x != a).length := ⟨_, rfl⟩
  have HLX := Lib.hid hlx
  have HLY := Lib.hid hly
  have HF : ∀ (L : List Nat) (q : Nat), L.length ≤ 1000 → (L.filter fun x => x != q).length ≤ 1000000000 := fun L q h => by
    exact Nat.le_trans (List.length_filter_le _ _) (by omega)
  clear hnu hlx hly
  go_cut [] (fun wx => L2I w3 wx b5 (some ⟨ob, 0, none⟩) c g.length ((matG g.length (ofG g)).set a (natInts (((List.range g.length).filter (ofG g a)).filter fun x => x != b))))
  case first =>
    go_region_law (first | (go_simp; go_at_call 142; refine (l2Without_any _ ((List.range g.length).filter (ofG g a)) _ b rfl hl1 _ (HNU.out.below (below_dN (Below.refl _ _) 1))).mono ?_; rintro e w6 ⟨rv, rfl, ho6, hb6⟩; have hn6 := Nums.of_owns ho6 (natInts_length _).symm (HF _ b hl1); obtain ⟨rvp, rvc, rfl, _⟩ := id hn6.shape; rw [natInts_length, ← HLX.out] at hn6 ⊢; have hb6' : Below W4.heap.size W4 w6 := (below_dN (Below.refl _ _) 1).trans hb6; have hf6 := (START.out.next hb6').thaw (matG_length _ _).symm a; have hc6 := hb6'.at' hcu; have hbc6 := hb6'.at' bc))
    all_goals go_wp2
    all_goals go_meet
    all_goals exact START.out.row_to (matG_length _ _).symm hb6' hn6 ham
  case rest =>
    have HL := Lib.hid hcut
    have hm1 : g.length = ((matG g.length (ofG g)).set a (natInts (((List.range g.length).filter (ofG g a)).filter fun x => x != b))).length := by simp [matG_length]
    have HM1 := Lib.hid hm1
    have bc := hcut.box.cell
    have bf := hcut.box.free
    obtain ⟨rp, rc, hcu, hnu⟩ := hcut.rowAt hm1 (hbm _)
    clear hm1
    rw [row_set _ _ _ _ ham, if_neg (Ne.symm hab), row_matG hb, natInts_length] at hcu hnu
    have HNU := Lib.hid hnu
    clear hcut hnu
    go_upto_region 5 with fail
    go_cut [] (fun wx => L2I w3 wx b5 (some ⟨ob, 0, none⟩) c g.length (matG g.length (cutE (ofG g) a b)))
    case first =>
      go_region_law (first | (go_simp; go_at_call 142; refine (l2Without_any _ ((List.range g.length).filter (ofG g b)) _ a rfl hl2 _ (HNU.out.below (below_dN (Below.refl _ _) 1))).mono ?_; rintro e w6 ⟨rv, rfl, ho6, hb6⟩; have hn6 := Nums.of_owns ho6 (natInts_length _).symm (HF _ a hl2); obtain ⟨rvp, rvc, rfl, _⟩ := id hn6.shape; rw [natInts_length, ← HLY.out] at hn6 ⊢; have hb6' : Below wc.heap.size wc w6 := (below_dN (Below.refl _ _) 1).trans hb6; have hf6 := (HL.out.next hb6').thaw HM1.out b; have hc6 := hb6'.at' hcu; have hbc6 := hb6'.at' bc))
      all_goals go_wp2
      all_goals go_meet
      all_goals exact (cut_matG (E := ofG g) hab ha hb) ▸ HL.out.row_to HM1.out hb6' hn6 (hbm _)
    case rest =>
      have HL2 := Lib.hid hcut
      have bc := hcut.box.cell
      have HX9 := HX1.out.keep (HB2.out.trans (hcut.bel.mono HB2.out.size))
      obtain ⟨k2c, k2f, _⟩ := id HX9
      clear hcut
      go_wp2
      have e0 := HBA.out.size
      have e1 := HB2.out.size
      refine bodyPost_ret (v := .tuple #[.agg #[.slice (some ⟨ob, 0, none⟩) g.length c], .bool true]) (by simp [results, Tryd.results165, go_sem, k2c]) rfl ⟨_, rfl, (HL2.out.sg.setBox HX9 _).base (by omega), ?_⟩
      exact ((HBA.out.trans (HB2.out.mono e0)).trans (HL2.out.bel.mono (by omega))).setCell (by show w.heap.size ≤ w.heap.size + 1; omega) _

end Go.Proofs.YtkppbmfliejnmaaDoor

/- Plain: a search with a queue finds the distances. -/
namespace Go.Proofs.YtkppbmfliejnmaaDoor

def cntP : List Int → Nat
  | [] => 0
  | x :: D => (if 0 ≤ x then 1 else 0) + cntP D
theorem cntP_le : ∀ D : List Int, cntP D ≤ D.length
  | [] => Nat.le_refl _
  | x :: D => by
    have := cntP_le D
    rw [cntP, List.length_cons]
    split <;> omega
theorem cntP_set : ∀ (D : List Int) (u : Nat) (f : Int), u < D.length → D.getD u 0 < 0 → 0 ≤ f → cntP (D.set u f) = cntP D + 1
  | [], u, f, h, _, _ => by simp at h
  | x :: D, 0, f, _, h, hf => by
    have h : x < 0 := by simpa using h
    rw [List.set_cons_zero, cntP, cntP, if_pos hf, if_neg (by omega)]
    omega
  | x :: D, u + 1, f, h, h2, hf => by
    rw [List.set_cons_succ, cntP, cntP, cntP_set D u f (by simpa using h) (by simpa using h2) hf]
    omega
theorem getD_setI (D : List Int) (u t : Nat) (f : Int) (hu : u < D.length) : (D.set u f).getD t 0 = if t = u then f else D.getD t 0 := by
  by_cases e : t = u
  · subst e; simp [hu]
  · simp [e, List.getElem?_set, Ne.symm e]
/-- The search so far. -/
structure BfI (E : Nat → Nat → Bool) (W : Nat → Prop) (R : Nat → List Int) (n v : Nat) (D : List Int) (Q : List Nat) (c : Option Nat) (i : Nat) : Prop where
  len : D.length = n
  low : ∀ u, u < n → -1 ≤ D.getD u 0
  bnd : ∀ u, u < n → D.getD u 0 < cntP D
  val : ∀ u, u < n → ∀ m : Nat, D.getD u 0 = m → LW E W v m u
  src : D.getD v 0 = 0
  qin : ∀ x ∈ Q, x < n ∧ 0 ≤ D.getD x 0
  srt : Q.Pairwise fun a b => D.getD a 0 ≤ D.getD b 0
  top : ∀ x ∈ Q, c = none → ∀ y, y < n → D.getD y 0 ≤ D.getD x 0 + 1
  topc : ∀ x, c = some x → (∀ y, y < n → D.getD y 0 ≤ D.getD x 0 + 1) ∧ ∀ z ∈ Q, D.getD x 0 ≤ D.getD z 0
  dne : ∀ x, x < n → 0 ≤ D.getD x 0 → x ∉ Q → c ≠ some x → ∀ y, E x y = true → W y → 0 ≤ D.getD y 0 ∧ D.getD y 0 ≤ D.getD x 0 + 1
  cur : ∀ x, c = some x → x < n ∧ 0 ≤ D.getD x 0 ∧ ∀ y : Nat, (y : Int) ∈ (R x).take i → W y → 0 ≤ D.getD y 0 ∧ D.getD y 0 ≤ D.getD x 0 + 1
theorem cntP_rep (n : Nat) : cntP (List.replicate n (-1)) = 0 := by
  induction n with
  | zero => rfl
  | succ n ih => rw [List.replicate_succ, cntP, ih]; rfl
theorem rep_at {n u : Nat} (h : u < n) : (List.replicate n (-1 : Int)).getD u 0 = -1 := by simp [h]
theorem BfI.start {E : Nat → Nat → Bool} {W : Nat → Prop} {R : Nat → List Int} {n v : Nat} (hv : W v) (hvn : v < n) : BfI E W R n v ((List.replicate n (-1)).set v 0) [v] none 0 := by
  have hat : ∀ t, t < n → ((List.replicate n (-1 : Int)).set v 0).getD t 0 = if t = v then 0 else -1 := fun t ht => by
    rw [getD_setI _ _ _ _ (by simp; exact hvn), rep_at ht]
  have hc : cntP ((List.replicate n (-1 : Int)).set v 0) = 1 := by
    rw [cntP_set _ _ _ (by simp; exact hvn) (by rw [rep_at hvn]; omega) (Int.le_refl _), cntP_rep]
  refine ⟨by simp, fun u hu => ?_, fun u hu => ?_, fun u hu m hm => ?_, by rw [hat v hvn, if_pos rfl], fun x hx => ?_, by simp, fun x hx _ y hy => ?_, fun x h => (by cases h), fun x hx h0 hq => ?_, fun x h => (by cases h)⟩
  · rw [hat u hu]; split <;> omega
  · rw [hat u hu, hc]; split <;> omega
  · rw [hat u hu] at hm
    by_cases e : u = v
    · rw [if_pos e] at hm
      obtain rfl : m = 0 := by omega
      subst e; exact .base hv
    · rw [if_neg e] at hm; omega
  · obtain rfl : x = v := by simpa using hx
    exact ⟨hvn, by rw [hat x hvn, if_pos rfl]; omega⟩
  · obtain rfl : x = v := by simpa using hx
    rw [hat y hy, hat x hvn, if_pos rfl]
    split <;> omega
  · rw [hat x hx] at h0
    by_cases e : x = v
    · exact absurd (by rw [e]; simp) hq
    · rw [if_neg e] at h0; omega
theorem BfI.pop {E : Nat → Nat → Bool} {W : Nat → Prop} {R : Nat → List Int} {n v : Nat} {D : List Int} {c : Nat} {Q : List Nat} {i : Nat} (h : BfI E W R n v D (c :: Q) none i) : BfI E W R n v D Q (some c) 0 := by
  have hq := h.qin c (by simp)
  have hs := List.pairwise_cons.1 h.srt
  refine ⟨h.len, h.low, h.bnd, h.val, h.src, fun x hx => h.qin x (by simp [hx]), hs.2, fun _ _ e => (by cases e), fun x e => ?_, fun x hx h0 hn hc => h.dne x hx h0 (fun hm => ?_) (fun e => by cases e), fun x e => ?_⟩
  · cases e
    exact ⟨h.top c (by simp) rfl, fun z hz => hs.1 z hz⟩
  · rcases List.mem_cons.1 hm with rfl | hm
    · exact hc rfl
    · exact hn hm
  · cases e
    exact ⟨hq.1, hq.2, fun y hy => by simp at hy⟩
theorem BfI.skip {E : Nat → Nat → Bool} {W : Nat → Prop} {R : Nat → List Int} {n v : Nat} {D : List Int} {c : Nat} {Q : List Nat} {i : Nat} (h : BfI E W R n v D Q (some c) i) (hi : i < (R c).length) {t : Nat} (ht : (t : Int) = (R c)[i]) (htn : t < n) (hs : ¬ W t ∨ 0 ≤ D.getD t 0) : BfI E W R n v D Q (some c) (i + 1) := by
  refine ⟨h.len, h.low, h.bnd, h.val, h.src, h.qin, h.srt, h.top, h.topc, h.dne, fun x e => ?_⟩
  cases e
  obtain ⟨h1, h2, h3⟩ := h.cur c rfl
  refine ⟨h1, h2, fun y hy hw => ?_⟩
  rw [List.take_succ_eq_append_getElem hi, List.mem_append, List.mem_singleton, ← ht] at hy
  rcases hy with hy | hy
  · exact h3 y hy hw
  · obtain rfl : y = t := by omega
    exact ⟨hs.resolve_left fun hn => hn hw, (h.topc c rfl).1 y htn⟩
theorem BfI.add {E : Nat → Nat → Bool} {W : Nat → Prop} {R : Nat → List Int} {n v : Nat} {D : List Int} {c : Nat} {Q : List Nat} {i : Nat} (h : BfI E W R n v D Q (some c) i) (hi : i < (R c).length) {t : Nat} (ht : (t : Int) = (R c)[i]) (htn : t < n) (hw : W t) (h0 : D.getD t 0 < 0) (hE : E c t = true) :
    BfI E W R n v (D.set t (D.getD c 0 + 1)) (Q ++ [t]) (some c) (i + 1) ∧ cntP (D.set t (D.getD c 0 + 1)) = cntP D + 1 := by
  obtain ⟨hc1, hc2, hc3⟩ := h.cur c rfl
  obtain ⟨ht1, ht2⟩ := h.topc c rfl
  have hlen := h.len
  have hct : c ≠ t := fun e => by rw [e] at hc2; omega
  have hat : ∀ u, (D.set t (D.getD c 0 + 1)).getD u 0 = if u = t then D.getD c 0 + 1 else D.getD u 0 := fun u => getD_setI _ _ _ _ (by omega)
  have hne : ∀ u, 0 ≤ D.getD u 0 → (D.set t (D.getD c 0 + 1)).getD u 0 = D.getD u 0 := fun u hu => by
    rw [hat, if_neg fun e => by rw [e] at hu; omega]
  have hcnt := cntP_set D t (D.getD c 0 + 1) (by omega) h0 (by omega)
  refine ⟨⟨by rw [List.length_set]; exact h.len, fun u hu => ?_, fun u hu => ?_, fun u hu m hm => ?_, ?_, fun x hx => ?_, ?_, fun _ _ e => (by cases e), fun x e => ?_, fun x hx hx0 hq hxc y hxy hwy => ?_, fun x e => ?_⟩, hcnt⟩
  · rw [hat]; split
    · omega
    · exact h.low u hu
  · rw [hat, hcnt]; split
    · have := h.bnd c hc1; omega
    · have := h.bnd u hu; omega
  · rw [hat] at hm
    by_cases e : u = t
    · rw [if_pos e] at hm
      subst e
      obtain ⟨j, hj⟩ := Int.eq_ofNat_of_zero_le hc2
      obtain rfl : m = j + 1 := by omega
      exact .step (h.val c hc1 j hj) (.inr hE) hw
    · rw [if_neg e] at hm
      exact h.val u hu m hm
  · rw [hne v (by rw [h.src]; exact Int.le_refl _)]
    exact h.src
  · rcases List.mem_append.1 hx with hx | hx
    · obtain ⟨a, b⟩ := h.qin x hx
      exact ⟨a, by rw [hne x b]; exact b⟩
    · obtain rfl : x = t := by simpa using hx
      exact ⟨htn, by rw [hat, if_pos rfl]; omega⟩
  · refine List.pairwise_append.2 ⟨h.srt.imp_of_mem fun {a b} ha hb hab => ?_, by simp, fun a ha b hb => ?_⟩
    · rw [hne a (h.qin a ha).2, hne b (h.qin b hb).2]; exact hab
    · obtain rfl : b = t := by simpa using hb
      rw [hne a (h.qin a ha).2, hat, if_pos rfl]
      exact ht1 a (h.qin a ha).1
  · cases e
    rw [hne c hc2]
    refine ⟨fun y hy => ?_, fun z hz => ?_⟩
    · rw [hat]; split
      · omega
      · exact ht1 y hy
    · rcases List.mem_append.1 hz with hz | hz
      · rw [hne z (h.qin z hz).2]; exact ht2 z hz
      · obtain rfl : z = t := by simpa using hz
        rw [hat, if_pos rfl]; omega
  · have hxt : x ≠ t := fun e => hq (by simp [e])
    rw [hat, if_neg hxt] at hx0
    obtain ⟨a, b⟩ := h.dne x hx hx0 (fun hm => hq (by simp [hm])) hxc y hxy hwy
    rw [hne y a, hne x hx0]
    exact ⟨a, b⟩
  · cases e
    refine ⟨hc1, by rw [hne c hc2]; exact hc2, fun y hy hwy => ?_⟩
    rw [hne c hc2]
    rw [List.take_succ_eq_append_getElem hi, List.mem_append, List.mem_singleton, ← ht] at hy
    rcases hy with hy | hy
    · obtain ⟨a, b⟩ := hc3 y hy hwy
      rw [hne y a]
      exact ⟨a, b⟩
    · obtain rfl : y = t := by omega
      rw [hat, if_pos rfl]
      omega
theorem BfI.fin {E : Nat → Nat → Bool} {W : Nat → Prop} {R : Nat → List Int} {n v : Nat} {D : List Int} {c : Nat} {Q : List Nat} {i : Nat} (h : BfI E W R n v D Q (some c) i) (hi : (R c).length ≤ i) (hR : ∀ x y : Nat, E x y = true → (y : Int) ∈ R x) : BfI E W R n v D Q none 0 := by
  obtain ⟨hc1, hc2, hc3⟩ := h.cur c rfl
  obtain ⟨ht1, ht2⟩ := h.topc c rfl
  refine ⟨h.len, h.low, h.bnd, h.val, h.src, h.qin, h.srt, fun x hx _ y hy => ?_, fun x e => (by cases e), fun x hx h0 hq _ y hxy hw => ?_, fun x e => (by cases e)⟩
  · have := ht1 y hy
    have := ht2 x hx
    omega
  · by_cases e : x = c
    · subst e
      exact hc3 y (by rw [List.take_of_length_le hi]; exact hR x y hxy) hw
    · exact h.dne x hx h0 hq (fun e2 => e (by cases e2; rfl)) y hxy hw
theorem BfI.done {E : Nat → Nat → Bool} {W : Nat → Prop} {R : Nat → List Int} {n v : Nat} {D : List Int} {i : Nat} (h : BfI E W R n v D [] none i) (hW : ∀ x, W x → x < n) {u : Nat} (hu : u < n) : IsD E W v u (D.getD u 0) := by
  have key : ∀ k u, LW E W v k u → 0 ≤ D.getD u 0 ∧ D.getD u 0 ≤ k := fun k u hk => by
    induction hk with
    | base _ => rw [h.src]; exact ⟨Int.le_refl _, Int.le_refl _⟩
    | @step k x y h1 h2 h3 ih =>
      rcases h2 with rfl | h2
      · exact ⟨ih.1, by omega⟩
      · have := h.dne x (hW x h1.lst) ih.1 (by simp) (fun e => by cases e) y h2 h3
        exact ⟨this.1, by omega⟩
  by_cases h0 : 0 ≤ D.getD u 0
  · obtain ⟨m, hm⟩ := Int.eq_ofNat_of_zero_le h0
    exact .inr ⟨m, hm, h.val u hu m hm, fun k hk hk2 => by have := (key k u hk2).2; omega⟩
  · exact .inl ⟨by have := h.low u hu; omega, fun k hk => h0 (key k u hk).1⟩

end Go.Proofs.YtkppbmfliejnmaaDoor
