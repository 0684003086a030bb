/- Walk: the program's search of a loop of one length, recursive on the block of the search (printed in part by wip/mkLp.py). -/
import Derived.Test.YtkppbmfliejnmaaDoorLpQ19
namespace Go.Proofs.YtkppbmfliejnmaaDoor
open Go.RowKit

theorem anyVertex_any (v u : Value) (w : World) : Calls Tryd.prog 164 #[v, u] w fun e w' => e = .returned (.bool true) ∧ w = w' := by
  go_enter Tryd.func164, Tryd.ntmps164
  go_wp2
  go_ret
  exact ⟨rfl, rfl⟩

theorem owns_shapeL {w : World} {base : Nat} {E : TypeId} {size n : Nat} {v : Value} {xs : List Value} (h : w.ownsRow base E size v n xs) : ∃ p c, v = .slice p n c := by
  rcases h.2 with ⟨rfl, rfl⟩ | ⟨g, cap, cur, rfl, _⟩
  · exact ⟨_, _, rfl⟩
  · exact ⟨_, _, rfl⟩

/-- What the search leaves alone. -/
structure Fr (w : World) (xb : Nat) (ov : Value) (w' : World) (ov' : Value) : Prop where
  blk : ∀ k, k < w.heap.size → k ≠ xb → ov.ownBlock ≠ some k → w'.heap[k]? = w.heap[k]?
  own : ∀ k, ov'.ownBlock = some k → ov.ownBlock = some k ∨ w.heap.size ≤ k
  size : w.heap.size ≤ w'.heap.size
theorem Fr.refl (w : World) (xb : Nat) (ov : Value) : Fr w xb ov w ov := ⟨fun _ _ _ _ => rfl, fun _ h => .inl h, Nat.le_refl _⟩
theorem Fr.trans {w w' w'' : World} {xb : Nat} {ov ov' ov'' : Value} (h : Fr w xb ov w' ov') (k : Fr w' xb ov' w'' ov'') : Fr w xb ov w'' ov'' where
  blk b hb hx ho := (k.blk b (Nat.lt_of_lt_of_le hb h.size) hx (fun e => by
    rcases h.own b e with e | e
    · exact ho e
    · omega)).trans (h.blk b hb hx ho)
  own b e := by
    rcases k.own b e with e | e
    · exact h.own b e
    · have := h.size
      exact .inr (by omega)
  size := Nat.le_trans h.size k.size
theorem Fr.of_below {w w' : World} {xb : Nat} {ov : Value} (h : Below w.heap.size w w') : Fr w xb ov w' ov := ⟨fun b hb _ _ => h.block b hb, fun _ e => .inl e, h.size⟩
theorem Fr.of_grown {w w' : World} {xb b' n' c' : Nat} {ov u1 u2 : Value} {i j : Nat} (hg : w.grownBy w' ov.ownBlock) (hn : ov.ownBlock = some b' ∨ w.heap.size < b') :
    Fr w xb ov ((w'.setCell ⟨xb, i, none⟩ u1).setCell ⟨xb, j, none⟩ u2) (.slice (some ⟨b', 0, none⟩) n' c') where
  blk b hb hx ho := by
    rw [Below.heap_setCell _ _ _ _ (by show b ≠ xb; exact hx), Below.heap_setCell _ _ _ _ (by show b ≠ xb; exact hx)]
    exact hg.block b hb (fun e => ho e.symm)
  own b e := by
    have e : b' = b := by simpa [Value.ownBlock] using e
    subst e
    rcases hn with h | h
    · exact .inl h
    · exact .inr (by omega)
  size := by have := hg.size; simpa [World.setCell] using this
theorem Fr.of_cut {w : World} {xb : Nat} {p : Option Addr} {n c n' : Nat} {u1 u2 : Value} {i j : Nat} : Fr w xb (.slice p n c) ((w.setCell ⟨xb, i, none⟩ u1).setCell ⟨xb, j, none⟩ u2) (.slice p n' c) where
  blk b hb hx ho := by rw [Below.heap_setCell _ _ _ _ (by show b ≠ xb; exact hx), Below.heap_setCell _ _ _ _ (by show b ≠ xb; exact hx)]
  own b e := .inl (by cases p <;> exact e)
  size := by simp [World.setCell]

set_option maxRecDepth 100000 in
set_option maxHeartbeats 8000000 in
theorem lpGrow_any (w1 : World) (hp : Option Addr) (hc n long fb v0 : Nat) (E : Nat → Nat → Bool) (D : List Int) (hs : ∀ x y, E x y = true → E y x = true) (hE : ∀ x y, E x y = true → y < n) (hH : NE w1 (.slice hp n hc) n E) (hT : Tab w1)
    (hD : ∀ u, u < n → w1.cell? ⟨fb, u, none⟩ = some (.int .i64 (D.getD u 0))) (hDD : ∀ u, u < n → IsD E (fun x => x < n) v0 u (D.getD u 0)) (hln : long ≤ n) :
    ∀ (r : Nat) (P : List Nat) (us : Nat) (ov : Value) (w : World), us = mask (natInts P) → (∀ x ∈ P, x < n) → P.headD 0 = v0 → 0 < P.length → P.Nodup → Chn E P → P.length + r = long → LsI w1 w (.slice hp n hc) (.slice (some ⟨fb, 0, none⟩) n n) long P us ov →
      Calls Tryd.prog 214 #[.pointer (some ⟨w1.heap.size + 1, 0, none⟩)] w fun e w' => e = .returned (.bool (lpF n E r P).isSome) ∧ ∃ us' ov', LsI w1 w' (.slice hp n hc) (.slice (some ⟨fb, 0, none⟩) n n) long ((lpF n E r P).getD P) us' ov' ∧ (lpF n E r P = none → us' = us) ∧ Fr w (w1.heap.size + 1) ov w' ov' := by
  have n16 := hH.le
  have HH := Lib.hid hH
  have HT := Lib.hid hT
  have HD := Lib.hid hD
  have HDD := Lib.hid hDD
  have HS := Lib.hid hs
  have HE := Lib.hid hE
  clear hH hT hD hDD hs hE
  intro r
  induction r with
  | zero =>
    intro P us ov w hus hin hhd hpos hnd hch hlen hI
    obtain ⟨ob, oc, rfl, hoc⟩ := owns_capLp hI.ord hpos
    have HI := Lib.hid hI
    have hc0 := hI.cs.c0
    have hc2 := hI.cs.c2
    have hc3 := hI.cs.c3
    have heq : ((P.length : Int) == (long : Int)) = true := by simp; omega
    obtain ⟨pm, hpm⟩ : ∃ pm, pm = P.length - 1 := ⟨_, rfl⟩
    have hq1 : IntKind.i64.wrap ((P.length : Int) - 1) = (pm : Int) := by rw [IntKind.wrap_i64]; omega
    have hpm0 : (0 : Int) ≤ (pm : Int) := by omega
    have hpm1 : (pm : Int) < (P.length : Int) := by omega
    have hPne : P ≠ [] := fun e => by rw [e] at hpos; exact absurd hpos (by decide)
    obtain ⟨la, hla⟩ : ∃ la, la = P.getLastD 0 := ⟨_, rfl⟩
    obtain ⟨hd, hhd2⟩ : ∃ hd, hd = P.headD 0 := ⟨_, rfl⟩
    have hlan : la < n := by rw [hla, last_getD hPne]; exact hin _ (List.getElem_mem _)
    have hhdn : hd < n := by rw [hhd2, head_getD hpos]; exact hin _ (List.getElem_mem _)
    have hcl : w.cell? ⟨ob, pm, none⟩ = some (.int .i64 (la : Int)) := by
      rw [hI.ord.cellAt pm (by omega), hla, last_getD hPne]
      subst hpm
      simp [natInts, show P.length - 1 < P.length by omega]
    have hch0 : w.cell? ⟨ob, 0, none⟩ = some (.int .i64 (hd : Int)) := by
      rw [hI.ord.cellAt 0 (by omega), hhd2, head_getD hpos]
      simp [natInts, hpos]
    obtain ⟨hb, ho, a, rfl, hca, ha16, hab⟩ := HH.out.get hlan
    have hca' := hI.bel.at' hca
    have HAB : Hid (a.testBit hd = E la hd) := Lib.hid (by rw [hab hd]; simp [hhdn])
    have hlai : (la : Int) < (n : Int) := by omega
    have hla0 : (0 : Int) ≤ (la : Int) := by omega
    have HRES : Hid (lpF n E 0 P = if E la hd = true then some P else none) := Lib.hid (by rw [hla, hhd2]; rfl)
    obtain ⟨pl, hpl⟩ : ∃ pl, pl = P.length := ⟨_, rfl⟩
    have HPL := Lib.hid hpl
    rw [← hpl] at hpos heq hq1 hpm1 hoc hc3 ⊢
    clear hI hus hin hhd hnd hch hab hca hla hhd2 hpl hpm
    go_enter Tryd.func214, Tryd.ntmps214
    go_upto_region 1 with fail
    go_cut [3] (fun s wx => s = .int .i64 (la : Int) ∧ Below w.heap.size w wx)
    case first =>
      go_region_held3 (fun Z => Z.cell? ⟨w1.heap.size + 1, 3, none⟩ = some (.slice (some ⟨ob, 0, none⟩) pl oc) ∧ Z.cell? ⟨ob, pm, none⟩ = some (.int .i64 (la : Int)))
        (first | exact ⟨hc3, hcl⟩ | go_keep) (fail)
      all_goals go_wp2
      all_goals go_meet
      all_goals exact ⟨rfl, below_dN (Below.refl _ _) _⟩
    case rest =>
    obtain ⟨rfl, hb1⟩ := hcut
    obtain ⟨wA, rfl⟩ : ∃ wA, wA = wc := ⟨_, rfl⟩
    replace hc2 := hb1.at' hc2
    replace hc3 := hb1.at' hc3
    go_upto_region 2 with fail
    go_cut [27] (fun s wx => s = .bool true ∧ Below wA.heap.size wA wx)
    case first =>
      go_region_held3 (fun Z => Z.cell? ⟨w1.heap.size + 1, 3, none⟩ = some (.slice (some ⟨ob, 0, none⟩) pl oc) ∧ Z.cell? ⟨w1.heap.size + 1, 2, none⟩ = some (.int .i64 (long : Int)))
        (first | exact ⟨hc3, hc2⟩ | go_keep) (fail)
      all_goals go_wp2
      all_goals go_meet
      all_goals exact ⟨by first | rfl | (simp; omega), below_dN (Below.refl _ _) _⟩
    case rest =>
    obtain ⟨rfl, hb2⟩ := hcut
    obtain ⟨wB, rfl⟩ : ∃ wB, wB = wc := ⟨_, rfl⟩
    have HBB := Lib.hid (hb1.trans (hb2.mono hb1.size))
    replace hc0 := HBB.out.at' hc0
    replace hca' := HBB.out.at' hca'
    replace hc3 := hb2.at' hc3
    replace hch0 := HBB.out.at' hch0
    clear hb1 hb2 hc2 hcl
    go_upto_region 3 with fail
    go_cut [2] (fun s wx => s = .bool (E la hd) ∧ Below wB.heap.size wB wx)
    case first =>
      go_region_held3 (fun Z => Z.cell? ⟨w1.heap.size + 1, 0, none⟩ = some (.slice (some ⟨hb, ho, none⟩) n hc) ∧ Z.cell? ⟨hb, ho + la, none⟩ = some (.int .u32 (a : Int)) ∧ Z.cell? ⟨w1.heap.size + 1, 3, none⟩ = some (.slice (some ⟨ob, 0, none⟩) pl oc) ∧ Z.cell? ⟨ob, 0, none⟩ = some (.int .i64 (hd : Int)))
        (first | exact ⟨hc0, hca', hc3, hch0⟩ | go_keep)
        (first | (go_at_call 175; refine (has_any _ _ a hd rfl rfl (by omega) (by omega) _).mono ?_; rintro e wa ⟨he, hw⟩; rw [HAB.out] at he; subst he; subst hw))
      all_goals go_wp2
      all_goals go_meet
      all_goals exact ⟨rfl, below_dN (Below.refl _ _) _⟩
    case rest =>
    obtain ⟨rfl, hb3⟩ := hcut
    have hb2 := HBB.out.trans (hb3.mono HBB.out.size)
    go_wp2_with fail
    go_ret
    rw [HRES.out]
    have hI2 := HI.out.next hb2
    rw [HPL.out]
    cases E la hd
    · exact ⟨rfl, us, _, hI2, fun _ => rfl, Fr.of_below hb2⟩
    · exact ⟨rfl, us, _, hI2, fun _ => rfl, Fr.of_below hb2⟩
  | succ r ih =>
    intro P us ov w hus hin hhd hpos hnd hch hlen hI
    have IH := Lib.hid ih
    have HUS := Lib.hid hus
    have HIN := Lib.hid hin
    have HHD := Lib.hid hhd
    have HND := Lib.hid hnd
    have HCH := Lib.hid hch
    have hus16 : us < 65536 := by rw [hus]; exact mask_nat16Lp fun u hu => by have := hin u hu; omega
    obtain ⟨ob0, oc0, rfl, hoc0⟩ := owns_capLp hI.ord hpos
    have HI := Lib.hid hI
    have hc0 := hI.cs.c0
    have hc2 := hI.cs.c2
    have hc3 := hI.cs.c3
    have hc4 := hI.cs.c4
    have hne : ((P.length : Int) == (long : Int)) = false := beq_eq_false_iff_ne.2 (by omega)
    obtain ⟨pm, hpm⟩ : ∃ pm, pm = P.length - 1 := ⟨_, rfl⟩
    have hq1 : IntKind.i64.wrap ((P.length : Int) - 1) = (pm : Int) := by rw [IntKind.wrap_i64]; omega
    have hpm0 : (0 : Int) ≤ (pm : Int) := by omega
    have hpm1 : (pm : Int) < (P.length : Int) := by omega
    have hPne : P ≠ [] := fun e => by rw [e] at hpos; exact absurd hpos (by decide)
    have HPN := Lib.hid hPne
    obtain ⟨la, hla⟩ : ∃ la, la = P.getLastD 0 := ⟨_, rfl⟩
    have hlan : la < n := by rw [hla, last_getD hPne]; exact hin _ (List.getElem_mem _)
    have hcl : w.cell? ⟨ob0, pm, none⟩ = some (.int .i64 (la : Int)) := by
      rw [hI.ord.cellAt pm (by omega), hla, last_getD hPne]
      subst hpm
      simp [natInts, show P.length - 1 < P.length by omega]
    obtain ⟨hb, ho, a, rfl, hca, ha16, hab⟩ := HH.out.get hlan
    have hca' := hI.bel.at' hca
    have hlai : (la : Int) < (n : Int) := by omega
    have hla0 : (0 : Int) ≤ (la : Int) := by omega
    obtain ⟨L, hL⟩ : ∃ L, L = nxtL n E P := ⟨_, rfl⟩
    have HL := Lib.hid hL
    obtain ⟨lf, hlf⟩ : ∃ lf, lf = sub a us := ⟨_, rfl⟩
    have hlb : bitsOf lf = L := by rw [hlf, hL]; exact nxt_bits n16 ha16 (by rw [← hla]; exact hab) hus hus16
    have hand0 : bits BinOp.andNot IntKind.u32 (a : Int) (us : Int) = (lf : Int) := by rw [hlf]; exact u32_andNot_nat a us (by omega) (by omega)
    have hlf32 : lf < 4294967296 := by rw [hlf]; exact sub_lt32 _ _ (by omega)
    have LIST : Hid (∀ (wz : World), Tab wz → Calls Tryd.prog 180 #[.int .u32 (lf : Int)] wz fun e w' => ∃ v, e = .returned v ∧ w'.ownsRow wz.heap.size 3 1 v L.length ((natInts L).map (Value.int .i64)) ∧ Below wz.heap.size wz w') := Lib.hid (fun wz hT => by
      have := list_any _ lf rfl hlf32 wz hT
      rw [hlb] at this
      exact this)
    have hL16 : L.length ≤ 32 := by rw [← hlb]; exact bitsOf_length lf
    have HT2 := Lib.hid (HT.out.keep hI.bel)
    have hxl := hI.cs.lt
    have hob0 : ob0 < w.heap.size := (hI.ord.lt ob0 rfl).2
    clear ih hus hin hhd hnd hch hI hab hla hca hL hlf hlb hpm hPne hoc0
    go_enter Tryd.func214, Tryd.ntmps214
    go_upto_region 1 with fail
    go_cut [3] (fun s wx => s = .int .i64 (la : Int) ∧ Below w.heap.size w wx)
    case first =>
      go_region_held3 (fun Z => Z.cell? ⟨w1.heap.size + 1, 3, none⟩ = some (.slice (some ⟨ob0, 0, none⟩) P.length oc0) ∧ Z.cell? ⟨ob0, pm, none⟩ = some (.int .i64 (la : Int)))
        (first | exact ⟨hc3, hcl⟩ | go_keep) (fail)
      all_goals go_wp2
      all_goals go_meet
      all_goals exact ⟨rfl, below_dN (Below.refl _ _) _⟩
    case rest =>
    obtain ⟨rfl, hb1⟩ := hcut
    obtain ⟨wA, rfl⟩ : ∃ wA, wA = wc := ⟨_, rfl⟩
    replace hc2 := hb1.at' hc2
    replace hc3 := hb1.at' hc3
    go_upto_region 2 with fail
    go_cut [27] (fun s wx => s = .bool false ∧ Below wA.heap.size wA wx)
    case first =>
      go_region_held3 (fun Z => Z.cell? ⟨w1.heap.size + 1, 3, none⟩ = some (.slice (some ⟨ob0, 0, none⟩) P.length oc0) ∧ Z.cell? ⟨w1.heap.size + 1, 2, none⟩ = some (.int .i64 (long : Int)))
        (first | exact ⟨hc3, hc2⟩ | go_keep) (fail)
      all_goals go_wp2
      all_goals go_meet
      all_goals exact ⟨by first | rfl | (simp; omega), below_dN (Below.refl _ _) _⟩
    case rest =>
    obtain ⟨rfl, hb2⟩ := hcut
    obtain ⟨wB, rfl⟩ : ∃ wB, wB = wc := ⟨_, rfl⟩
    have HBB := Lib.hid (hb1.trans (hb2.mono hb1.size))
    replace hc0 := HBB.out.at' hc0
    replace hca' := HBB.out.at' hca'
    replace hc4 := HBB.out.at' hc4
    have HT3 := Lib.hid (HT2.out.keep HBB.out)
    clear hb1 hb2 hc2 hc3 hcl
    go_upto_region 4 with fail
    go_cut [54, 55, 56] (fun lv nv kv wx => ∃ (lp : Option Addr) (lc : Nat), lv = .slice lp L.length lc ∧ nv = .int .i64 (L.length : Int) ∧ kv = .int .i64 0 ∧ wx.ownsRow wB.heap.size 3 1 (.slice lp L.length lc) L.length ((natInts L).map (Value.int .i64)) ∧ Below wB.heap.size wB wx)
    case first =>
      go_region_held3 (fun Z => Z.cell? ⟨w1.heap.size + 1, 0, none⟩ = some (.slice (some ⟨hb, ho, none⟩) n hc) ∧ Z.cell? ⟨hb, ho + la, none⟩ = some (.int .u32 (a : Int)) ∧ Z.cell? ⟨w1.heap.size + 1, 4, none⟩ = some (.int .u32 (us : Int)))
        (first | exact ⟨hc0, hca', hc4⟩ | go_keep | exact ⟨BW9.at' hc0, BW9.at' hca', BW9.at' hc4⟩)
        (first | (go_at_call 180; refine (LIST.out _ (HT3.out.keep (below_dN (Below.refl _ _) _))).mono ?_; rintro e wa ⟨lv, rfl, ho9, hb9⟩; obtain ⟨lp, lc, rfl⟩ := owns_shapeL ho9; have HO9 := Lib.hid ho9; have BW9 : Below wB.heap.size wB wa := (below_dN (Below.refl _ _) _).trans hb9; clear ho9 hb9))
      all_goals go_wp2
      all_goals go_meet
      all_goals exact ⟨lp, lc, rfl, rfl, rfl, HO9.out, BW9⟩
    case rest =>
    obtain ⟨lp, lc, rfl, rfl, rfl, ho9, hb9⟩ := hcut
    obtain ⟨wl, rfl⟩ : ∃ wl, wl = wc := ⟨_, rfl⟩
    have HO9 := Lib.hid (ownsRow_base ho9 (show w.heap.size ≤ wB.heap.size from HBB.out.size))
    have HB9 := Lib.hid (HBB.out.trans (hb9.mono HBB.out.size))
    have HI9 := Lib.hid (HI.out.next HB9.out)
    have szl := HB9.out.size
    clear ho9 hb9 hc0 hc4 hca' HI HT2 HT3 LIST HBB
    go_wp2_with fail
    go_loopw [56] (fun kv wr => ∃ (k : Nat) (ov : Value), k ≤ L.length ∧ kv = .int .i64 (k : Int) ∧ Hid (∀ j (hj : j < L.length), j < k → lpF n E r (P ++ [L[j]]) = none) ∧ LsI w1 wr (.slice (some ⟨hb, ho, none⟩) n hc) (.slice (some ⟨fb, 0, none⟩) n n) long P us ov ∧ Fr wl (w1.heap.size + 1) (.slice (some ⟨ob0, 0, none⟩) P.length oc0) wr ov) (fun kv _ => L.length - (intOf kv).toNat)
    case atStart => exact ⟨0, _, Nat.zero_le _, rfl, Lib.hid (fun j _ h => absurd h (Nat.not_lt_zero _)), HI9.out, Fr.refl _ _ _⟩
    case round =>
      clear HI9
      obtain ⟨k, ov, hk, rfl, HNO, hI, hF⟩ := hrel
      by_cases hkl : k < L.length
      · obtain ⟨v, hv⟩ : ∃ v, v = L[k] := ⟨_, rfl⟩
        have hvm : v ∈ nxtL n E P := by rw [hv, ← HL.out]; exact List.getElem_mem hkl
        obtain ⟨hvn, hvE, hvP⟩ := nxt_mem hvm
        obtain ⟨ob, oc, rfl, hoc⟩ := owns_capLp hI.ord hpos
        obtain ⟨lb, lc', hle, _⟩ := owns_capLp HO9.out (by omega)
        obtain ⟨rfl, _, rfl⟩ : lp = some ⟨lb, 0, none⟩ ∧ L.length = L.length ∧ lc = lc' := by simpa only [Value.slice.injEq] using hle
        have hO := ownsRow_toLp HO9.out (fun q hq => hF.blk q (HO9.out.lt q hq).2 (by have := (HO9.out.lt q hq).1; omega) (fun e => by
          have e : ob0 = q := by simpa [Value.ownBlock] using e
          have := (HO9.out.lt q hq).1; omega))
        have hcv : wr.cell? ⟨lb, k, none⟩ = some (.int .i64 (v : Int)) := by
          rw [hO.cellAt k (by omega), hv]
          simp [natInts, hkl]
        have hki : (k : Int) < (L.length : Int) := by omega
        have hk0 : (0 : Int) ≤ (k : Int) := by omega
        have hvi : (v : Int) < (n : Int) := by omega
        have hv0 : (0 : Int) ≤ (v : Int) := by omega
        obtain ⟨d, hdd⟩ : ∃ d, d = D.getD v 0 := ⟨_, rfl⟩
        have hcd : wr.cell? ⟨fb, v, none⟩ = some (.int .i64 d) := by rw [hdd]; exact hI.bel.at' (HD.out v hvn)
        have FAR : Hid (d < 0 ∨ (r + 1 : Int) < d → lpF n E r (P ++ [v]) = none) := Lib.hid (lp_far HS.out rfl HPN.out HND.out HCH.out HIN.out hvm (by rw [HHD.out, hdd]; exact HDD.out v hvn))
        have NEXT : Hid (lpF n E r (P ++ [v]) = none → ∀ j (hj : j < L.length), j < k + 1 → lpF n E r (P ++ [L[j]]) = none) := Lib.hid (fun h j hj hjk => by
          by_cases e : j < k
          · exact HNO.out j hj e
          · obtain rfl : j = k := by omega
            rw [← hv]; exact h)
        have FOUND : Hid (∀ M, lpF n E r (P ++ [v]) = some M → lpF n E (r + 1) P = some M) := Lib.hid (fun M h => by
          have e := HL.out
          subst e
          exact lpF_at hkl (fun j hj hjk => HNO.out j hj hjk) (by rw [← hv]; exact h))
        obtain ⟨rr, hrr⟩ : ∃ rr : Int, rr = (r : Int) + 1 := ⟨_, rfl⟩
        have hwr : IntKind.i64.wrap ((long : Int) - (P.length : Int)) = rr := by rw [IntKind.wrap_i64]; omega
        have hc1 := hI.cs.c1
        have hc2 := hI.cs.c2
        have hc3 := hI.cs.c3
        have hc4 := hI.cs.c4
        have hc5 := hI.cs.c5
        have hlx := hI.cs.lt
        have HCI := Lib.hid hI
        have HOR := Lib.hid hI.ord
        have HSZ := Lib.hid hI.bel.size
        have HF := Lib.hid hF
        have HVM := Lib.hid hvm
        have HVE := Lib.hid hvE
        have HVP := Lib.hid hvP
        have HRR := Lib.hid hrr
        clear hI hF hO hle hv hvm hvE hvP hdd hrr
        go_upto_region 7 with fail
        by_cases hneg : d < 0
        · have HNX := Lib.hid (NEXT.out (FAR.out (.inl hneg)))
          refine wp_region_held_drew (S := (fun w' => w'.cell? ⟨w1.heap.size + 1, 1, none⟩ = some (.slice (some ⟨fb, 0, none⟩) n n) ∧ w'.cell? ⟨fb, v, none⟩ = some (.int .i64 d) ∧ w'.cell? ⟨w1.heap.size + 1, 2, none⟩ = some (.int .i64 (long : Int)) ∧ w'.cell? ⟨w1.heap.size + 1, 3, none⟩ = some (.slice (some ⟨ob, 0, none⟩) P.length oc) ∧ w'.cell? ⟨w1.heap.size + 1, 5, none⟩ = some (.func (.func 164) #[] #[]))) (by kernel_rfl) ?_ (fun hHeld => ?_)
          · exact ⟨hc1, hcd, hc2, hc3, hc5⟩
          refine wpAnyH_take (i := 0) (v := .pointer (some ⟨w1.heap.size + 1, 0, none⟩)) rfl (by kernel_rfl) (by kernel_rfl) (by kernel_rfl) (fun _ _ _ h => h) (Or.inl ⟨by rfl, ?_⟩) (by assumption) ?_
          · intro wz hSw; (try dsimp only at hSw); go_simp; try rfl
          try simp only [Act.put, List.getElem_toArray, List.getElem_cons_succ, List.getElem_cons_zero, List.setIfInBounds_toArray, List.set_cons_zero, List.set_cons_succ]
          refine wpAnyH_take (i := 1) (v := .pointer (some ⟨w1.heap.size + 1, 0, none⟩)) rfl (by kernel_rfl) (by kernel_rfl) (by kernel_rfl) (fun _ _ _ h => h) (Or.inl ⟨by rfl, ?_⟩) (by assumption) ?_
          · intro wz hSw; (try dsimp only at hSw); go_simp; try rfl
          try simp only [Act.put, List.getElem_toArray, List.getElem_cons_succ, List.getElem_cons_zero, List.setIfInBounds_toArray, List.set_cons_zero, List.set_cons_succ]
          refine wpAnyH_take (i := 2) (v := .pointer (some ⟨w1.heap.size + 1, 1, none⟩)) rfl (by kernel_rfl) (by kernel_rfl) (by kernel_rfl) (fun _ _ _ h => h) (Or.inl ⟨by rfl, ?_⟩) (by assumption) ?_
          · intro wz hSw; (try dsimp only at hSw); go_simp; try rfl
          try simp only [Act.put, List.getElem_toArray, List.getElem_cons_succ, List.getElem_cons_zero, List.setIfInBounds_toArray, List.set_cons_zero, List.set_cons_succ]
          refine wpAnyH_take (i := 3) (v := .slice (some ⟨fb, 0, none⟩) n n) rfl (by kernel_rfl) (by kernel_rfl) (by kernel_rfl) (fun _ _ _ h => h) (Or.inl ⟨by rfl, ?_⟩) (by assumption) ?_
          · intro wz hSw; (try dsimp only at hSw); go_simp; try rfl
          try simp only [Act.put, List.getElem_toArray, List.getElem_cons_succ, List.getElem_cons_zero, List.setIfInBounds_toArray, List.set_cons_zero, List.set_cons_succ]
          refine wpAnyH_take (i := 4) (v := .int .i64 (v : Int)) rfl (by kernel_rfl) (by kernel_rfl) (by kernel_rfl) (fun _ _ _ h => h) (Or.inl ⟨by rfl, ?_⟩) (by assumption) ?_
          · intro wz hSw; (try dsimp only at hSw); go_simp; try rfl
          try simp only [Act.put, List.getElem_toArray, List.getElem_cons_succ, List.getElem_cons_zero, List.setIfInBounds_toArray, List.set_cons_zero, List.set_cons_succ]
          refine wpAnyH_take (i := 5) (v := .pointer (some ⟨fb, v, none⟩)) rfl (by kernel_rfl) (by kernel_rfl) (by kernel_rfl) (fun _ _ _ h => h) (Or.inl ⟨by rfl, ?_⟩) (by assumption) ?_
          · intro wz hSw; (try dsimp only at hSw); go_simp; try rfl
          try simp only [Act.put, List.getElem_toArray, List.getElem_cons_succ, List.getElem_cons_zero, List.setIfInBounds_toArray, List.set_cons_zero, List.set_cons_succ]
          refine wpAnyH_take (i := 6) (v := .int .i64 d) rfl (by kernel_rfl) (by kernel_rfl) (by kernel_rfl) (fun _ _ _ h => h) (Or.inl ⟨by rfl, ?_⟩) (by assumption) ?_
          · intro wz hSw; (try dsimp only at hSw); go_simp; try rfl
          try simp only [Act.put, List.getElem_toArray, List.getElem_cons_succ, List.getElem_cons_zero, List.setIfInBounds_toArray, List.set_cons_zero, List.set_cons_succ]
          refine wpAnyH_take (i := 7) (v := .bool true) rfl (by kernel_rfl) (by kernel_rfl) (by kernel_rfl) (fun _ _ _ h => h) (Or.inl ⟨by rfl, ?_⟩) (by assumption) ?_
          · intro wz hSw; (try dsimp only at hSw); go_simp; try rfl
          try simp only [Act.put, List.getElem_toArray, List.getElem_cons_succ, List.getElem_cons_zero, List.setIfInBounds_toArray, List.set_cons_zero, List.set_cons_succ]
          refine wpAnyH_take (i := 8) (v := .bool true) rfl (by kernel_rfl) (by kernel_rfl) (by kernel_rfl) (fun _ _ _ h => h) (Or.inl ⟨by rfl, ?_⟩) (by assumption) ?_
          · intro wz hSw; (try dsimp only at hSw); go_simp; try rfl
          try simp only [Act.put, List.getElem_toArray, List.getElem_cons_succ, List.getElem_cons_zero, List.setIfInBounds_toArray, List.set_cons_zero, List.set_cons_succ]
          refine wpAnyH_take (i := 9) (v := undef) rfl (by kernel_rfl) (by kernel_rfl) (by kernel_rfl) (fun _ _ _ h => h) (Or.inr ⟨by kernel_rfl, rfl⟩) (by assumption) ?_
          try simp only [Act.put, List.getElem_toArray, List.getElem_cons_succ, List.getElem_cons_zero, List.setIfInBounds_toArray, List.set_cons_zero, List.set_cons_succ]
          refine wpAnyH_take (i := 10) (v := undef) rfl (by kernel_rfl) (by kernel_rfl) (by kernel_rfl) (fun _ _ _ h => h) (Or.inr ⟨by kernel_rfl, rfl⟩) (by assumption) ?_
          try simp only [Act.put, List.getElem_toArray, List.getElem_cons_succ, List.getElem_cons_zero, List.setIfInBounds_toArray, List.set_cons_zero, List.set_cons_succ]
          refine wpAnyH_take (i := 11) (v := undef) rfl (by kernel_rfl) (by kernel_rfl) (by kernel_rfl) (fun _ _ _ h => h) (Or.inr ⟨by kernel_rfl, rfl⟩) (by assumption) ?_
          try simp only [Act.put, List.getElem_toArray, List.getElem_cons_succ, List.getElem_cons_zero, List.setIfInBounds_toArray, List.set_cons_zero, List.set_cons_succ]
          refine wpAnyH_take (i := 12) (v := undef) rfl (by kernel_rfl) (by kernel_rfl) (by kernel_rfl) (fun _ _ _ h => h) (Or.inr ⟨by kernel_rfl, rfl⟩) (by assumption) ?_
          try simp only [Act.put, List.getElem_toArray, List.getElem_cons_succ, List.getElem_cons_zero, List.setIfInBounds_toArray, List.set_cons_zero, List.set_cons_succ]
          refine wpAnyH_take (i := 13) (v := undef) rfl (by kernel_rfl) (by kernel_rfl) (by kernel_rfl) (fun _ _ _ h => h) (Or.inr ⟨by kernel_rfl, rfl⟩) (by assumption) ?_
          try simp only [Act.put, List.getElem_toArray, List.getElem_cons_succ, List.getElem_cons_zero, List.setIfInBounds_toArray, List.set_cons_zero, List.set_cons_succ]
          refine wpAnyH_take (i := 14) (v := undef) rfl (by kernel_rfl) (by kernel_rfl) (by kernel_rfl) (fun _ _ _ h => h) (Or.inr ⟨by kernel_rfl, rfl⟩) (by assumption) ?_
          try simp only [Act.put, List.getElem_toArray, List.getElem_cons_succ, List.getElem_cons_zero, List.setIfInBounds_toArray, List.set_cons_zero, List.set_cons_succ]
          refine wpAnyH_take (i := 15) (v := undef) rfl (by kernel_rfl) (by kernel_rfl) (by kernel_rfl) (fun _ _ _ h => h) (Or.inr ⟨by kernel_rfl, rfl⟩) (by assumption) ?_
          try simp only [Act.put, List.getElem_toArray, List.getElem_cons_succ, List.getElem_cons_zero, List.setIfInBounds_toArray, List.set_cons_zero, List.set_cons_succ]
          refine wpAnyH_take (i := 16) (v := undef) rfl (by kernel_rfl) (by kernel_rfl) (by kernel_rfl) (fun _ _ _ h => h) (Or.inr ⟨by kernel_rfl, rfl⟩) (by assumption) ?_
          try simp only [Act.put, List.getElem_toArray, List.getElem_cons_succ, List.getElem_cons_zero, List.setIfInBounds_toArray, List.set_cons_zero, List.set_cons_succ]
          refine wpAnyH_take (i := 17) (v := undef) rfl (by kernel_rfl) (by kernel_rfl) (by kernel_rfl) (fun _ _ _ h => h) (Or.inr ⟨by kernel_rfl, rfl⟩) (by assumption) ?_
          try simp only [Act.put, List.getElem_toArray, List.getElem_cons_succ, List.getElem_cons_zero, List.setIfInBounds_toArray, List.set_cons_zero, List.set_cons_succ]
          refine wpAnyH_take (i := 18) (v := undef) rfl (by kernel_rfl) (by kernel_rfl) (by kernel_rfl) (fun _ _ _ h => h) (Or.inr ⟨by kernel_rfl, rfl⟩) (by assumption) ?_
          try simp only [Act.put, List.getElem_toArray, List.getElem_cons_succ, List.getElem_cons_zero, List.setIfInBounds_toArray, List.set_cons_zero, List.set_cons_succ]
          refine wpAnyH_take (i := 19) (v := undef) rfl (by kernel_rfl) (by kernel_rfl) (by kernel_rfl) (fun _ _ _ h => h) (Or.inr ⟨by kernel_rfl, rfl⟩) (by assumption) ?_
          try simp only [Act.put, List.getElem_toArray, List.getElem_cons_succ, List.getElem_cons_zero, List.setIfInBounds_toArray, List.set_cons_zero, List.set_cons_succ]
          refine wpAnyH_take (i := 20) (v := undef) rfl (by kernel_rfl) (by kernel_rfl) (by kernel_rfl) (fun _ _ _ h => h) (Or.inr ⟨by kernel_rfl, rfl⟩) (by assumption) ?_
          try simp only [Act.put, List.getElem_toArray, List.getElem_cons_succ, List.getElem_cons_zero, List.setIfInBounds_toArray, List.set_cons_zero, List.set_cons_succ]
          refine wpAnyH_take (i := 21) (v := undef) rfl (by kernel_rfl) (by kernel_rfl) (by kernel_rfl) (fun _ _ _ h => h) (Or.inr ⟨by kernel_rfl, rfl⟩) (by assumption) ?_
          try simp only [Act.put, List.getElem_toArray, List.getElem_cons_succ, List.getElem_cons_zero, List.setIfInBounds_toArray, List.set_cons_zero, List.set_cons_succ]
          refine wpAnyH_take (i := 22) (v := undef) rfl (by kernel_rfl) (by kernel_rfl) (by kernel_rfl) (fun _ _ _ h => h) (Or.inr ⟨by kernel_rfl, rfl⟩) (by assumption) ?_
          try simp only [Act.put, List.getElem_toArray, List.getElem_cons_succ, List.getElem_cons_zero, List.setIfInBounds_toArray, List.set_cons_zero, List.set_cons_succ]
          refine wpAnyH_take (i := 23) (v := undef) rfl (by kernel_rfl) (by kernel_rfl) (by kernel_rfl) (fun _ _ _ h => h) (Or.inr ⟨by kernel_rfl, rfl⟩) (by assumption) ?_
          try simp only [Act.put, List.getElem_toArray, List.getElem_cons_succ, List.getElem_cons_zero, List.setIfInBounds_toArray, List.set_cons_zero, List.set_cons_succ]
          refine wpAnyH_take (i := 24) (v := undef) rfl (by kernel_rfl) (by kernel_rfl) (by kernel_rfl) (fun _ _ _ h => h) (Or.inr ⟨by kernel_rfl, rfl⟩) (by assumption) ?_
          try simp only [Act.put, List.getElem_toArray, List.getElem_cons_succ, List.getElem_cons_zero, List.setIfInBounds_toArray, List.set_cons_zero, List.set_cons_succ]
          refine wpAnyH_take (i := 25) (v := undef) rfl (by kernel_rfl) (by kernel_rfl) (by kernel_rfl) (fun _ _ _ h => h) (Or.inr ⟨by kernel_rfl, rfl⟩) (by assumption) ?_
          try simp only [Act.put, List.getElem_toArray, List.getElem_cons_succ, List.getElem_cons_zero, List.setIfInBounds_toArray, List.set_cons_zero, List.set_cons_succ]
          refine wpAnyH_take (i := 26) (v := undef) rfl (by kernel_rfl) (by kernel_rfl) (by kernel_rfl) (fun _ _ _ h => h) (Or.inr ⟨by kernel_rfl, rfl⟩) (by assumption) ?_
          try simp only [Act.put, List.getElem_toArray, List.getElem_cons_succ, List.getElem_cons_zero, List.setIfInBounds_toArray, List.set_cons_zero, List.set_cons_succ]
          refine wpAnyH_take (i := 27) (v := .bool true) rfl (by kernel_rfl) (by kernel_rfl) (by kernel_rfl) (fun _ _ _ h => h) (Or.inl ⟨by rfl, ?_⟩) (by assumption) ?_
          · intro wz hSw; (try dsimp only at hSw); go_simp; try rfl
          try simp only [Act.put, List.getElem_toArray, List.getElem_cons_succ, List.getElem_cons_zero, List.setIfInBounds_toArray, List.set_cons_zero, List.set_cons_succ]
          refine wpAnyH_take (i := 28) (v := .bool true) rfl (by kernel_rfl) (by kernel_rfl) (by kernel_rfl) (fun _ _ _ h => h) (Or.inl ⟨by rfl, ?_⟩) (by assumption) ?_
          · intro wz hSw; (try dsimp only at hSw); go_simp; try rfl
          try simp only [Act.put, List.getElem_toArray, List.getElem_cons_succ, List.getElem_cons_zero, List.setIfInBounds_toArray, List.set_cons_zero, List.set_cons_succ]
          refine wpAnyH_take (i := 29) (v := undef) rfl (by kernel_rfl) (by kernel_rfl) (by kernel_rfl) (fun _ _ _ h => h) (Or.inr ⟨by kernel_rfl, rfl⟩) (by assumption) ?_
          try simp only [Act.put, List.getElem_toArray, List.getElem_cons_succ, List.getElem_cons_zero, List.setIfInBounds_toArray, List.set_cons_zero, List.set_cons_succ]
          refine wpAnyH_take (i := 30) (v := undef) rfl (by kernel_rfl) (by kernel_rfl) (by kernel_rfl) (fun _ _ _ h => h) (Or.inr ⟨by kernel_rfl, rfl⟩) (by assumption) ?_
          try simp only [Act.put, List.getElem_toArray, List.getElem_cons_succ, List.getElem_cons_zero, List.setIfInBounds_toArray, List.set_cons_zero, List.set_cons_succ]
          refine wpAnyH_take (i := 31) (v := undef) rfl (by kernel_rfl) (by kernel_rfl) (by kernel_rfl) (fun _ _ _ h => h) (Or.inr ⟨by kernel_rfl, rfl⟩) (by assumption) ?_
          try simp only [Act.put, List.getElem_toArray, List.getElem_cons_succ, List.getElem_cons_zero, List.setIfInBounds_toArray, List.set_cons_zero, List.set_cons_succ]
          refine wpAnyH_take (i := 32) (v := undef) rfl (by kernel_rfl) (by kernel_rfl) (by kernel_rfl) (fun _ _ _ h => h) (Or.inr ⟨by kernel_rfl, rfl⟩) (by assumption) ?_
          try simp only [Act.put, List.getElem_toArray, List.getElem_cons_succ, List.getElem_cons_zero, List.setIfInBounds_toArray, List.set_cons_zero, List.set_cons_succ]
          refine wpAnyH_take (i := 33) (v := undef) rfl (by kernel_rfl) (by kernel_rfl) (by kernel_rfl) (fun _ _ _ h => h) (Or.inr ⟨by kernel_rfl, rfl⟩) (by assumption) ?_
          try simp only [Act.put, List.getElem_toArray, List.getElem_cons_succ, List.getElem_cons_zero, List.setIfInBounds_toArray, List.set_cons_zero, List.set_cons_succ]
          refine wpAnyH_take (i := 34) (v := undef) rfl (by kernel_rfl) (by kernel_rfl) (by kernel_rfl) (fun _ _ _ h => h) (Or.inr ⟨by kernel_rfl, rfl⟩) (by assumption) ?_
          try simp only [Act.put, List.getElem_toArray, List.getElem_cons_succ, List.getElem_cons_zero, List.setIfInBounds_toArray, List.set_cons_zero, List.set_cons_succ]
          refine wpAnyH_take (i := 35) (v := undef) rfl (by kernel_rfl) (by kernel_rfl) (by kernel_rfl) (fun _ _ _ h => h) (Or.inr ⟨by kernel_rfl, rfl⟩) (by assumption) ?_
          try simp only [Act.put, List.getElem_toArray, List.getElem_cons_succ, List.getElem_cons_zero, List.setIfInBounds_toArray, List.set_cons_zero, List.set_cons_succ]
          refine wpAnyH_take (i := 36) (v := undef) rfl (by kernel_rfl) (by kernel_rfl) (by kernel_rfl) (fun _ _ _ h => h) (Or.inr ⟨by kernel_rfl, rfl⟩) (by assumption) ?_
          try simp only [Act.put, List.getElem_toArray, List.getElem_cons_succ, List.getElem_cons_zero, List.setIfInBounds_toArray, List.set_cons_zero, List.set_cons_succ]
          refine wpAnyH_take (i := 37) (v := undef) rfl (by kernel_rfl) (by kernel_rfl) (by kernel_rfl) (fun _ _ _ h => h) (Or.inr ⟨by kernel_rfl, rfl⟩) (by assumption) ?_
          try simp only [Act.put, List.getElem_toArray, List.getElem_cons_succ, List.getElem_cons_zero, List.setIfInBounds_toArray, List.set_cons_zero, List.set_cons_succ]
          refine wpAnyH_take (i := 38) (v := undef) rfl (by kernel_rfl) (by kernel_rfl) (by kernel_rfl) (fun _ _ _ h => h) (Or.inr ⟨by kernel_rfl, rfl⟩) (by assumption) ?_
          try simp only [Act.put, List.getElem_toArray, List.getElem_cons_succ, List.getElem_cons_zero, List.setIfInBounds_toArray, List.set_cons_zero, List.set_cons_succ]
          refine wpAnyH_take (i := 39) (v := undef) rfl (by kernel_rfl) (by kernel_rfl) (by kernel_rfl) (fun _ _ _ h => h) (Or.inr ⟨by kernel_rfl, rfl⟩) (by assumption) ?_
          try simp only [Act.put, List.getElem_toArray, List.getElem_cons_succ, List.getElem_cons_zero, List.setIfInBounds_toArray, List.set_cons_zero, List.set_cons_succ]
          refine wpAnyH_take (i := 40) (v := .bool true) rfl (by kernel_rfl) (by kernel_rfl) (by kernel_rfl) (fun _ _ _ h => h) (Or.inl ⟨by rfl, ?_⟩) (by assumption) ?_
          · intro wz hSw; (try dsimp only at hSw); go_simp; try rfl
          try simp only [Act.put, List.getElem_toArray, List.getElem_cons_succ, List.getElem_cons_zero, List.setIfInBounds_toArray, List.set_cons_zero, List.set_cons_succ]
          refine wpAnyH_done (by kernel_rfl) ?_ _
          go_wp2_with fail
          go_roundw
          case rel => exact ⟨k + 1, _, by omega, by go_num, HNX, HCI.out.next (below_dN (Below.refl _ _) _), HF.out.trans (Fr.of_below (below_dN (Below.refl _ _) _))⟩
          case measure => simp [intOf]; omega
        · by_cases hgt : rr < d
          · have HNX := Lib.hid (NEXT.out (FAR.out (.inr (by rw [← HRR.out]; exact hgt))))
            refine wp_region_held_drew (S := (fun w' => w'.cell? ⟨w1.heap.size + 1, 1, none⟩ = some (.slice (some ⟨fb, 0, none⟩) n n) ∧ w'.cell? ⟨fb, v, none⟩ = some (.int .i64 d) ∧ w'.cell? ⟨w1.heap.size + 1, 2, none⟩ = some (.int .i64 (long : Int)) ∧ w'.cell? ⟨w1.heap.size + 1, 3, none⟩ = some (.slice (some ⟨ob, 0, none⟩) P.length oc) ∧ w'.cell? ⟨w1.heap.size + 1, 5, none⟩ = some (.func (.func 164) #[] #[]))) (by kernel_rfl) ?_ (fun hHeld => ?_)
            · exact ⟨hc1, hcd, hc2, hc3, hc5⟩
            refine wpAnyH_take (i := 0) (v := .pointer (some ⟨w1.heap.size + 1, 0, none⟩)) rfl (by kernel_rfl) (by kernel_rfl) (by kernel_rfl) (fun _ _ _ h => h) (Or.inl ⟨by rfl, ?_⟩) (by assumption) ?_
            · intro wz hSw; (try dsimp only at hSw); go_simp; try rfl
            try simp only [Act.put, List.getElem_toArray, List.getElem_cons_succ, List.getElem_cons_zero, List.setIfInBounds_toArray, List.set_cons_zero, List.set_cons_succ]
            refine wpAnyH_take (i := 1) (v := .pointer (some ⟨w1.heap.size + 1, 0, none⟩)) rfl (by kernel_rfl) (by kernel_rfl) (by kernel_rfl) (fun _ _ _ h => h) (Or.inl ⟨by rfl, ?_⟩) (by assumption) ?_
            · intro wz hSw; (try dsimp only at hSw); go_simp; try rfl
            try simp only [Act.put, List.getElem_toArray, List.getElem_cons_succ, List.getElem_cons_zero, List.setIfInBounds_toArray, List.set_cons_zero, List.set_cons_succ]
            refine wpAnyH_take (i := 2) (v := .pointer (some ⟨w1.heap.size + 1, 1, none⟩)) rfl (by kernel_rfl) (by kernel_rfl) (by kernel_rfl) (fun _ _ _ h => h) (Or.inl ⟨by rfl, ?_⟩) (by assumption) ?_
            · intro wz hSw; (try dsimp only at hSw); go_simp; try rfl
            try simp only [Act.put, List.getElem_toArray, List.getElem_cons_succ, List.getElem_cons_zero, List.setIfInBounds_toArray, List.set_cons_zero, List.set_cons_succ]
            refine wpAnyH_take (i := 3) (v := .slice (some ⟨fb, 0, none⟩) n n) rfl (by kernel_rfl) (by kernel_rfl) (by kernel_rfl) (fun _ _ _ h => h) (Or.inl ⟨by rfl, ?_⟩) (by assumption) ?_
            · intro wz hSw; (try dsimp only at hSw); go_simp; try rfl
            try simp only [Act.put, List.getElem_toArray, List.getElem_cons_succ, List.getElem_cons_zero, List.setIfInBounds_toArray, List.set_cons_zero, List.set_cons_succ]
            refine wpAnyH_take (i := 4) (v := .int .i64 (v : Int)) rfl (by kernel_rfl) (by kernel_rfl) (by kernel_rfl) (fun _ _ _ h => h) (Or.inl ⟨by rfl, ?_⟩) (by assumption) ?_
            · intro wz hSw; (try dsimp only at hSw); go_simp; try rfl
            try simp only [Act.put, List.getElem_toArray, List.getElem_cons_succ, List.getElem_cons_zero, List.setIfInBounds_toArray, List.set_cons_zero, List.set_cons_succ]
            refine wpAnyH_take (i := 5) (v := .pointer (some ⟨fb, v, none⟩)) rfl (by kernel_rfl) (by kernel_rfl) (by kernel_rfl) (fun _ _ _ h => h) (Or.inl ⟨by rfl, ?_⟩) (by assumption) ?_
            · intro wz hSw; (try dsimp only at hSw); go_simp; try rfl
            try simp only [Act.put, List.getElem_toArray, List.getElem_cons_succ, List.getElem_cons_zero, List.setIfInBounds_toArray, List.set_cons_zero, List.set_cons_succ]
            refine wpAnyH_take (i := 6) (v := .int .i64 d) rfl (by kernel_rfl) (by kernel_rfl) (by kernel_rfl) (fun _ _ _ h => h) (Or.inl ⟨by rfl, ?_⟩) (by assumption) ?_
            · intro wz hSw; (try dsimp only at hSw); go_simp; try rfl
            try simp only [Act.put, List.getElem_toArray, List.getElem_cons_succ, List.getElem_cons_zero, List.setIfInBounds_toArray, List.set_cons_zero, List.set_cons_succ]
            refine wpAnyH_take (i := 7) (v := .bool false) rfl (by kernel_rfl) (by kernel_rfl) (by kernel_rfl) (fun _ _ _ h => h) (Or.inl ⟨by rfl, ?_⟩) (by assumption) ?_
            · intro wz hSw; (try dsimp only at hSw); go_simp; try rfl
            try simp only [Act.put, List.getElem_toArray, List.getElem_cons_succ, List.getElem_cons_zero, List.setIfInBounds_toArray, List.set_cons_zero, List.set_cons_succ]
            refine wpAnyH_take (i := 8) (v := .bool false) rfl (by kernel_rfl) (by kernel_rfl) (by kernel_rfl) (fun _ _ _ h => h) (Or.inl ⟨by rfl, ?_⟩) (by assumption) ?_
            · intro wz hSw; (try dsimp only at hSw); go_simp; try rfl
            try simp only [Act.put, List.getElem_toArray, List.getElem_cons_succ, List.getElem_cons_zero, List.setIfInBounds_toArray, List.set_cons_zero, List.set_cons_succ]
            refine wpAnyH_take (i := 9) (v := .pointer (some ⟨w1.heap.size + 1, 0, none⟩)) rfl (by kernel_rfl) (by kernel_rfl) (by kernel_rfl) (fun _ _ _ h => h) (Or.inl ⟨by rfl, ?_⟩) (by assumption) ?_
            · intro wz hSw; (try dsimp only at hSw); go_simp; try rfl
            try simp only [Act.put, List.getElem_toArray, List.getElem_cons_succ, List.getElem_cons_zero, List.setIfInBounds_toArray, List.set_cons_zero, List.set_cons_succ]
            refine wpAnyH_take (i := 10) (v := .pointer (some ⟨w1.heap.size + 1, 0, none⟩)) rfl (by kernel_rfl) (by kernel_rfl) (by kernel_rfl) (fun _ _ _ h => h) (Or.inl ⟨by rfl, ?_⟩) (by assumption) ?_
            · intro wz hSw; (try dsimp only at hSw); go_simp; try rfl
            try simp only [Act.put, List.getElem_toArray, List.getElem_cons_succ, List.getElem_cons_zero, List.setIfInBounds_toArray, List.set_cons_zero, List.set_cons_succ]
            refine wpAnyH_take (i := 11) (v := .pointer (some ⟨w1.heap.size + 1, 1, none⟩)) rfl (by kernel_rfl) (by kernel_rfl) (by kernel_rfl) (fun _ _ _ h => h) (Or.inl ⟨by rfl, ?_⟩) (by assumption) ?_
            · intro wz hSw; (try dsimp only at hSw); go_simp; try rfl
            try simp only [Act.put, List.getElem_toArray, List.getElem_cons_succ, List.getElem_cons_zero, List.setIfInBounds_toArray, List.set_cons_zero, List.set_cons_succ]
            refine wpAnyH_take (i := 12) (v := .slice (some ⟨fb, 0, none⟩) n n) rfl (by kernel_rfl) (by kernel_rfl) (by kernel_rfl) (fun _ _ _ h => h) (Or.inl ⟨by rfl, ?_⟩) (by assumption) ?_
            · intro wz hSw; (try dsimp only at hSw); go_simp; try rfl
            try simp only [Act.put, List.getElem_toArray, List.getElem_cons_succ, List.getElem_cons_zero, List.setIfInBounds_toArray, List.set_cons_zero, List.set_cons_succ]
            refine wpAnyH_take (i := 13) (v := .int .i64 (v : Int)) rfl (by kernel_rfl) (by kernel_rfl) (by kernel_rfl) (fun _ _ _ h => h) (Or.inl ⟨by rfl, ?_⟩) (by assumption) ?_
            · intro wz hSw; (try dsimp only at hSw); go_simp; try rfl
            try simp only [Act.put, List.getElem_toArray, List.getElem_cons_succ, List.getElem_cons_zero, List.setIfInBounds_toArray, List.set_cons_zero, List.set_cons_succ]
            refine wpAnyH_take (i := 14) (v := .pointer (some ⟨fb, v, none⟩)) rfl (by kernel_rfl) (by kernel_rfl) (by kernel_rfl) (fun _ _ _ h => h) (Or.inl ⟨by rfl, ?_⟩) (by assumption) ?_
            · intro wz hSw; (try dsimp only at hSw); go_simp; try rfl
            try simp only [Act.put, List.getElem_toArray, List.getElem_cons_succ, List.getElem_cons_zero, List.setIfInBounds_toArray, List.set_cons_zero, List.set_cons_succ]
            refine wpAnyH_take (i := 15) (v := .int .i64 d) rfl (by kernel_rfl) (by kernel_rfl) (by kernel_rfl) (fun _ _ _ h => h) (Or.inl ⟨by rfl, ?_⟩) (by assumption) ?_
            · intro wz hSw; (try dsimp only at hSw); go_simp; try rfl
            try simp only [Act.put, List.getElem_toArray, List.getElem_cons_succ, List.getElem_cons_zero, List.setIfInBounds_toArray, List.set_cons_zero, List.set_cons_succ]
            refine wpAnyH_take (i := 16) (v := .pointer (some ⟨w1.heap.size + 1, 0, none⟩)) rfl (by kernel_rfl) (by kernel_rfl) (by kernel_rfl) (fun _ _ _ h => h) (Or.inl ⟨by rfl, ?_⟩) (by assumption) ?_
            · intro wz hSw; (try dsimp only at hSw); go_simp; try rfl
            try simp only [Act.put, List.getElem_toArray, List.getElem_cons_succ, List.getElem_cons_zero, List.setIfInBounds_toArray, List.set_cons_zero, List.set_cons_succ]
            refine wpAnyH_take (i := 17) (v := .pointer (some ⟨w1.heap.size + 1, 0, none⟩)) rfl (by kernel_rfl) (by kernel_rfl) (by kernel_rfl) (fun _ _ _ h => h) (Or.inl ⟨by rfl, ?_⟩) (by assumption) ?_
            · intro wz hSw; (try dsimp only at hSw); go_simp; try rfl
            try simp only [Act.put, List.getElem_toArray, List.getElem_cons_succ, List.getElem_cons_zero, List.setIfInBounds_toArray, List.set_cons_zero, List.set_cons_succ]
            refine wpAnyH_take (i := 18) (v := .pointer (some ⟨w1.heap.size + 1, 2, none⟩)) rfl (by kernel_rfl) (by kernel_rfl) (by kernel_rfl) (fun _ _ _ h => h) (Or.inl ⟨by rfl, ?_⟩) (by assumption) ?_
            · intro wz hSw; (try dsimp only at hSw); go_simp; try rfl
            try simp only [Act.put, List.getElem_toArray, List.getElem_cons_succ, List.getElem_cons_zero, List.setIfInBounds_toArray, List.set_cons_zero, List.set_cons_succ]
            refine wpAnyH_take (i := 19) (v := .int .i64 (long : Int)) rfl (by kernel_rfl) (by kernel_rfl) (by kernel_rfl) (fun _ _ _ h => h) (Or.inl ⟨by rfl, ?_⟩) (by assumption) ?_
            · intro wz hSw; (try dsimp only at hSw); go_simp; try rfl
            try simp only [Act.put, List.getElem_toArray, List.getElem_cons_succ, List.getElem_cons_zero, List.setIfInBounds_toArray, List.set_cons_zero, List.set_cons_succ]
            refine wpAnyH_take (i := 20) (v := .pointer (some ⟨w1.heap.size + 1, 0, none⟩)) rfl (by kernel_rfl) (by kernel_rfl) (by kernel_rfl) (fun _ _ _ h => h) (Or.inl ⟨by rfl, ?_⟩) (by assumption) ?_
            · intro wz hSw; (try dsimp only at hSw); go_simp; try rfl
            try simp only [Act.put, List.getElem_toArray, List.getElem_cons_succ, List.getElem_cons_zero, List.setIfInBounds_toArray, List.set_cons_zero, List.set_cons_succ]
            refine wpAnyH_take (i := 21) (v := .pointer (some ⟨w1.heap.size + 1, 0, none⟩)) rfl (by kernel_rfl) (by kernel_rfl) (by kernel_rfl) (fun _ _ _ h => h) (Or.inl ⟨by rfl, ?_⟩) (by assumption) ?_
            · intro wz hSw; (try dsimp only at hSw); go_simp; try rfl
            try simp only [Act.put, List.getElem_toArray, List.getElem_cons_succ, List.getElem_cons_zero, List.setIfInBounds_toArray, List.set_cons_zero, List.set_cons_succ]
            refine wpAnyH_take (i := 22) (v := .pointer (some ⟨w1.heap.size + 1, 3, none⟩)) rfl (by kernel_rfl) (by kernel_rfl) (by kernel_rfl) (fun _ _ _ h => h) (Or.inl ⟨by rfl, ?_⟩) (by assumption) ?_
            · intro wz hSw; (try dsimp only at hSw); go_simp; try rfl
            try simp only [Act.put, List.getElem_toArray, List.getElem_cons_succ, List.getElem_cons_zero, List.setIfInBounds_toArray, List.set_cons_zero, List.set_cons_succ]
            refine wpAnyH_take (i := 23) (v := .slice (some ⟨ob, 0, none⟩) P.length oc) rfl (by kernel_rfl) (by kernel_rfl) (by kernel_rfl) (fun _ _ _ h => h) (Or.inl ⟨by rfl, ?_⟩) (by assumption) ?_
            · intro wz hSw; (try dsimp only at hSw); go_simp; try rfl
            try simp only [Act.put, List.getElem_toArray, List.getElem_cons_succ, List.getElem_cons_zero, List.setIfInBounds_toArray, List.set_cons_zero, List.set_cons_succ]
            refine wpAnyH_take (i := 24) (v := .int .i64 (P.length : Int)) rfl (by kernel_rfl) (by kernel_rfl) (by kernel_rfl) (fun _ _ _ h => h) (Or.inl ⟨by rfl, ?_⟩) (by assumption) ?_
            · intro wz hSw; (try dsimp only at hSw); go_simp; try rfl
            try simp only [Act.put, List.getElem_toArray, List.getElem_cons_succ, List.getElem_cons_zero, List.setIfInBounds_toArray, List.set_cons_zero, List.set_cons_succ]
            refine wpAnyH_take (i := 25) (v := .int .i64 rr) rfl (by kernel_rfl) (by kernel_rfl) (by kernel_rfl) (fun _ _ _ h => h) (Or.inl ⟨by rfl, ?_⟩) (by assumption) ?_
            · intro wz hSw; (try dsimp only at hSw); go_simp; try rfl
            try simp only [Act.put, List.getElem_toArray, List.getElem_cons_succ, List.getElem_cons_zero, List.setIfInBounds_toArray, List.set_cons_zero, List.set_cons_succ]
            refine wpAnyH_take (i := 26) (v := .bool true) rfl (by kernel_rfl) (by kernel_rfl) (by kernel_rfl) (fun _ _ _ h => h) (Or.inl ⟨by rfl, ?_⟩) (by assumption) ?_
            · intro wz hSw; (try dsimp only at hSw); go_simp; try rfl
            try simp only [Act.put, List.getElem_toArray, List.getElem_cons_succ, List.getElem_cons_zero, List.setIfInBounds_toArray, List.set_cons_zero, List.set_cons_succ]
            refine wpAnyH_take (i := 27) (v := .bool true) rfl (by kernel_rfl) (by kernel_rfl) (by kernel_rfl) (fun _ _ _ h => h) (Or.inl ⟨by rfl, ?_⟩) (by assumption) ?_
            · intro wz hSw; (try dsimp only at hSw); go_simp; try rfl
            try simp only [Act.put, List.getElem_toArray, List.getElem_cons_succ, List.getElem_cons_zero, List.setIfInBounds_toArray, List.set_cons_zero, List.set_cons_succ]
            refine wpAnyH_take (i := 28) (v := .bool true) rfl (by kernel_rfl) (by kernel_rfl) (by kernel_rfl) (fun _ _ _ h => h) (Or.inl ⟨by rfl, ?_⟩) (by assumption) ?_
            · intro wz hSw; (try dsimp only at hSw); go_simp; try rfl
            try simp only [Act.put, List.getElem_toArray, List.getElem_cons_succ, List.getElem_cons_zero, List.setIfInBounds_toArray, List.set_cons_zero, List.set_cons_succ]
            refine wpAnyH_take (i := 29) (v := undef) rfl (by kernel_rfl) (by kernel_rfl) (by kernel_rfl) (fun _ _ _ h => h) (Or.inr ⟨by kernel_rfl, rfl⟩) (by assumption) ?_
            try simp only [Act.put, List.getElem_toArray, List.getElem_cons_succ, List.getElem_cons_zero, List.setIfInBounds_toArray, List.set_cons_zero, List.set_cons_succ]
            refine wpAnyH_take (i := 30) (v := undef) rfl (by kernel_rfl) (by kernel_rfl) (by kernel_rfl) (fun _ _ _ h => h) (Or.inr ⟨by kernel_rfl, rfl⟩) (by assumption) ?_
            try simp only [Act.put, List.getElem_toArray, List.getElem_cons_succ, List.getElem_cons_zero, List.setIfInBounds_toArray, List.set_cons_zero, List.set_cons_succ]
            refine wpAnyH_take (i := 31) (v := undef) rfl (by kernel_rfl) (by kernel_rfl) (by kernel_rfl) (fun _ _ _ h => h) (Or.inr ⟨by kernel_rfl, rfl⟩) (by assumption) ?_
            try simp only [Act.put, List.getElem_toArray, List.getElem_cons_succ, List.getElem_cons_zero, List.setIfInBounds_toArray, List.set_cons_zero, List.set_cons_succ]
            refine wpAnyH_take (i := 32) (v := undef) rfl (by kernel_rfl) (by kernel_rfl) (by kernel_rfl) (fun _ _ _ h => h) (Or.inr ⟨by kernel_rfl, rfl⟩) (by assumption) ?_
            try simp only [Act.put, List.getElem_toArray, List.getElem_cons_succ, List.getElem_cons_zero, List.setIfInBounds_toArray, List.set_cons_zero, List.set_cons_succ]
            refine wpAnyH_take (i := 33) (v := undef) rfl (by kernel_rfl) (by kernel_rfl) (by kernel_rfl) (fun _ _ _ h => h) (Or.inr ⟨by kernel_rfl, rfl⟩) (by assumption) ?_
            try simp only [Act.put, List.getElem_toArray, List.getElem_cons_succ, List.getElem_cons_zero, List.setIfInBounds_toArray, List.set_cons_zero, List.set_cons_succ]
            refine wpAnyH_take (i := 34) (v := undef) rfl (by kernel_rfl) (by kernel_rfl) (by kernel_rfl) (fun _ _ _ h => h) (Or.inr ⟨by kernel_rfl, rfl⟩) (by assumption) ?_
            try simp only [Act.put, List.getElem_toArray, List.getElem_cons_succ, List.getElem_cons_zero, List.setIfInBounds_toArray, List.set_cons_zero, List.set_cons_succ]
            refine wpAnyH_take (i := 35) (v := undef) rfl (by kernel_rfl) (by kernel_rfl) (by kernel_rfl) (fun _ _ _ h => h) (Or.inr ⟨by kernel_rfl, rfl⟩) (by assumption) ?_
            try simp only [Act.put, List.getElem_toArray, List.getElem_cons_succ, List.getElem_cons_zero, List.setIfInBounds_toArray, List.set_cons_zero, List.set_cons_succ]
            refine wpAnyH_take (i := 36) (v := undef) rfl (by kernel_rfl) (by kernel_rfl) (by kernel_rfl) (fun _ _ _ h => h) (Or.inr ⟨by kernel_rfl, rfl⟩) (by assumption) ?_
            try simp only [Act.put, List.getElem_toArray, List.getElem_cons_succ, List.getElem_cons_zero, List.setIfInBounds_toArray, List.set_cons_zero, List.set_cons_succ]
            refine wpAnyH_take (i := 37) (v := undef) rfl (by kernel_rfl) (by kernel_rfl) (by kernel_rfl) (fun _ _ _ h => h) (Or.inr ⟨by kernel_rfl, rfl⟩) (by assumption) ?_
            try simp only [Act.put, List.getElem_toArray, List.getElem_cons_succ, List.getElem_cons_zero, List.setIfInBounds_toArray, List.set_cons_zero, List.set_cons_succ]
            refine wpAnyH_take (i := 38) (v := undef) rfl (by kernel_rfl) (by kernel_rfl) (by kernel_rfl) (fun _ _ _ h => h) (Or.inr ⟨by kernel_rfl, rfl⟩) (by assumption) ?_
            try simp only [Act.put, List.getElem_toArray, List.getElem_cons_succ, List.getElem_cons_zero, List.setIfInBounds_toArray, List.set_cons_zero, List.set_cons_succ]
            refine wpAnyH_take (i := 39) (v := undef) rfl (by kernel_rfl) (by kernel_rfl) (by kernel_rfl) (fun _ _ _ h => h) (Or.inr ⟨by kernel_rfl, rfl⟩) (by assumption) ?_
            try simp only [Act.put, List.getElem_toArray, List.getElem_cons_succ, List.getElem_cons_zero, List.setIfInBounds_toArray, List.set_cons_zero, List.set_cons_succ]
            refine wpAnyH_take (i := 40) (v := .bool true) rfl (by kernel_rfl) (by kernel_rfl) (by kernel_rfl) (fun _ _ _ h => h) (Or.inl ⟨by rfl, ?_⟩) (by assumption) ?_
            · intro wz hSw; (try dsimp only at hSw); go_simp; try rfl
            try simp only [Act.put, List.getElem_toArray, List.getElem_cons_succ, List.getElem_cons_zero, List.setIfInBounds_toArray, List.set_cons_zero, List.set_cons_succ]
            refine wpAnyH_done (by kernel_rfl) ?_ _
            go_wp2_with fail
            go_roundw
            case rel => exact ⟨k + 1, _, by omega, by go_num, HNX, HCI.out.next (below_dN (Below.refl _ _) _), HF.out.trans (Fr.of_below (below_dN (Below.refl _ _) _))⟩
            case measure => simp [intOf]; omega
          · skip
            refine wp_region_held_drew (S := (fun w' => w'.cell? ⟨w1.heap.size + 1, 1, none⟩ = some (.slice (some ⟨fb, 0, none⟩) n n) ∧ w'.cell? ⟨fb, v, none⟩ = some (.int .i64 d) ∧ w'.cell? ⟨w1.heap.size + 1, 2, none⟩ = some (.int .i64 (long : Int)) ∧ w'.cell? ⟨w1.heap.size + 1, 3, none⟩ = some (.slice (some ⟨ob, 0, none⟩) P.length oc) ∧ w'.cell? ⟨w1.heap.size + 1, 5, none⟩ = some (.func (.func 164) #[] #[]))) (by kernel_rfl) ?_ (fun hHeld => ?_)
            · exact ⟨hc1, hcd, hc2, hc3, hc5⟩
            refine wpAnyH_take (i := 0) (v := .pointer (some ⟨w1.heap.size + 1, 0, none⟩)) rfl (by kernel_rfl) (by kernel_rfl) (by kernel_rfl) (fun _ _ _ h => h) (Or.inl ⟨by rfl, ?_⟩) (by assumption) ?_
            · intro wz hSw; (try dsimp only at hSw); go_simp; try rfl
            try simp only [Act.put, List.getElem_toArray, List.getElem_cons_succ, List.getElem_cons_zero, List.setIfInBounds_toArray, List.set_cons_zero, List.set_cons_succ]
            refine wpAnyH_take (i := 1) (v := .pointer (some ⟨w1.heap.size + 1, 0, none⟩)) rfl (by kernel_rfl) (by kernel_rfl) (by kernel_rfl) (fun _ _ _ h => h) (Or.inl ⟨by rfl, ?_⟩) (by assumption) ?_
            · intro wz hSw; (try dsimp only at hSw); go_simp; try rfl
            try simp only [Act.put, List.getElem_toArray, List.getElem_cons_succ, List.getElem_cons_zero, List.setIfInBounds_toArray, List.set_cons_zero, List.set_cons_succ]
            refine wpAnyH_take (i := 2) (v := .pointer (some ⟨w1.heap.size + 1, 1, none⟩)) rfl (by kernel_rfl) (by kernel_rfl) (by kernel_rfl) (fun _ _ _ h => h) (Or.inl ⟨by rfl, ?_⟩) (by assumption) ?_
            · intro wz hSw; (try dsimp only at hSw); go_simp; try rfl
            try simp only [Act.put, List.getElem_toArray, List.getElem_cons_succ, List.getElem_cons_zero, List.setIfInBounds_toArray, List.set_cons_zero, List.set_cons_succ]
            refine wpAnyH_take (i := 3) (v := .slice (some ⟨fb, 0, none⟩) n n) rfl (by kernel_rfl) (by kernel_rfl) (by kernel_rfl) (fun _ _ _ h => h) (Or.inl ⟨by rfl, ?_⟩) (by assumption) ?_
            · intro wz hSw; (try dsimp only at hSw); go_simp; try rfl
            try simp only [Act.put, List.getElem_toArray, List.getElem_cons_succ, List.getElem_cons_zero, List.setIfInBounds_toArray, List.set_cons_zero, List.set_cons_succ]
            refine wpAnyH_take (i := 4) (v := .int .i64 (v : Int)) rfl (by kernel_rfl) (by kernel_rfl) (by kernel_rfl) (fun _ _ _ h => h) (Or.inl ⟨by rfl, ?_⟩) (by assumption) ?_
            · intro wz hSw; (try dsimp only at hSw); go_simp; try rfl
            try simp only [Act.put, List.getElem_toArray, List.getElem_cons_succ, List.getElem_cons_zero, List.setIfInBounds_toArray, List.set_cons_zero, List.set_cons_succ]
            refine wpAnyH_take (i := 5) (v := .pointer (some ⟨fb, v, none⟩)) rfl (by kernel_rfl) (by kernel_rfl) (by kernel_rfl) (fun _ _ _ h => h) (Or.inl ⟨by rfl, ?_⟩) (by assumption) ?_
            · intro wz hSw; (try dsimp only at hSw); go_simp; try rfl
            try simp only [Act.put, List.getElem_toArray, List.getElem_cons_succ, List.getElem_cons_zero, List.setIfInBounds_toArray, List.set_cons_zero, List.set_cons_succ]
            refine wpAnyH_take (i := 6) (v := .int .i64 d) rfl (by kernel_rfl) (by kernel_rfl) (by kernel_rfl) (fun _ _ _ h => h) (Or.inl ⟨by rfl, ?_⟩) (by assumption) ?_
            · intro wz hSw; (try dsimp only at hSw); go_simp; try rfl
            try simp only [Act.put, List.getElem_toArray, List.getElem_cons_succ, List.getElem_cons_zero, List.setIfInBounds_toArray, List.set_cons_zero, List.set_cons_succ]
            refine wpAnyH_take (i := 7) (v := .bool false) rfl (by kernel_rfl) (by kernel_rfl) (by kernel_rfl) (fun _ _ _ h => h) (Or.inl ⟨by rfl, ?_⟩) (by assumption) ?_
            · intro wz hSw; (try dsimp only at hSw); go_simp; try rfl
            try simp only [Act.put, List.getElem_toArray, List.getElem_cons_succ, List.getElem_cons_zero, List.setIfInBounds_toArray, List.set_cons_zero, List.set_cons_succ]
            refine wpAnyH_take (i := 8) (v := .bool false) rfl (by kernel_rfl) (by kernel_rfl) (by kernel_rfl) (fun _ _ _ h => h) (Or.inl ⟨by rfl, ?_⟩) (by assumption) ?_
            · intro wz hSw; (try dsimp only at hSw); go_simp; try rfl
            try simp only [Act.put, List.getElem_toArray, List.getElem_cons_succ, List.getElem_cons_zero, List.setIfInBounds_toArray, List.set_cons_zero, List.set_cons_succ]
            refine wpAnyH_take (i := 9) (v := .pointer (some ⟨w1.heap.size + 1, 0, none⟩)) rfl (by kernel_rfl) (by kernel_rfl) (by kernel_rfl) (fun _ _ _ h => h) (Or.inl ⟨by rfl, ?_⟩) (by assumption) ?_
            · intro wz hSw; (try dsimp only at hSw); go_simp; try rfl
            try simp only [Act.put, List.getElem_toArray, List.getElem_cons_succ, List.getElem_cons_zero, List.setIfInBounds_toArray, List.set_cons_zero, List.set_cons_succ]
            refine wpAnyH_take (i := 10) (v := .pointer (some ⟨w1.heap.size + 1, 0, none⟩)) rfl (by kernel_rfl) (by kernel_rfl) (by kernel_rfl) (fun _ _ _ h => h) (Or.inl ⟨by rfl, ?_⟩) (by assumption) ?_
            · intro wz hSw; (try dsimp only at hSw); go_simp; try rfl
            try simp only [Act.put, List.getElem_toArray, List.getElem_cons_succ, List.getElem_cons_zero, List.setIfInBounds_toArray, List.set_cons_zero, List.set_cons_succ]
            refine wpAnyH_take (i := 11) (v := .pointer (some ⟨w1.heap.size + 1, 1, none⟩)) rfl (by kernel_rfl) (by kernel_rfl) (by kernel_rfl) (fun _ _ _ h => h) (Or.inl ⟨by rfl, ?_⟩) (by assumption) ?_
            · intro wz hSw; (try dsimp only at hSw); go_simp; try rfl
            try simp only [Act.put, List.getElem_toArray, List.getElem_cons_succ, List.getElem_cons_zero, List.setIfInBounds_toArray, List.set_cons_zero, List.set_cons_succ]
            refine wpAnyH_take (i := 12) (v := .slice (some ⟨fb, 0, none⟩) n n) rfl (by kernel_rfl) (by kernel_rfl) (by kernel_rfl) (fun _ _ _ h => h) (Or.inl ⟨by rfl, ?_⟩) (by assumption) ?_
            · intro wz hSw; (try dsimp only at hSw); go_simp; try rfl
            try simp only [Act.put, List.getElem_toArray, List.getElem_cons_succ, List.getElem_cons_zero, List.setIfInBounds_toArray, List.set_cons_zero, List.set_cons_succ]
            refine wpAnyH_take (i := 13) (v := .int .i64 (v : Int)) rfl (by kernel_rfl) (by kernel_rfl) (by kernel_rfl) (fun _ _ _ h => h) (Or.inl ⟨by rfl, ?_⟩) (by assumption) ?_
            · intro wz hSw; (try dsimp only at hSw); go_simp; try rfl
            try simp only [Act.put, List.getElem_toArray, List.getElem_cons_succ, List.getElem_cons_zero, List.setIfInBounds_toArray, List.set_cons_zero, List.set_cons_succ]
            refine wpAnyH_take (i := 14) (v := .pointer (some ⟨fb, v, none⟩)) rfl (by kernel_rfl) (by kernel_rfl) (by kernel_rfl) (fun _ _ _ h => h) (Or.inl ⟨by rfl, ?_⟩) (by assumption) ?_
            · intro wz hSw; (try dsimp only at hSw); go_simp; try rfl
            try simp only [Act.put, List.getElem_toArray, List.getElem_cons_succ, List.getElem_cons_zero, List.setIfInBounds_toArray, List.set_cons_zero, List.set_cons_succ]
            refine wpAnyH_take (i := 15) (v := .int .i64 d) rfl (by kernel_rfl) (by kernel_rfl) (by kernel_rfl) (fun _ _ _ h => h) (Or.inl ⟨by rfl, ?_⟩) (by assumption) ?_
            · intro wz hSw; (try dsimp only at hSw); go_simp; try rfl
            try simp only [Act.put, List.getElem_toArray, List.getElem_cons_succ, List.getElem_cons_zero, List.setIfInBounds_toArray, List.set_cons_zero, List.set_cons_succ]
            refine wpAnyH_take (i := 16) (v := .pointer (some ⟨w1.heap.size + 1, 0, none⟩)) rfl (by kernel_rfl) (by kernel_rfl) (by kernel_rfl) (fun _ _ _ h => h) (Or.inl ⟨by rfl, ?_⟩) (by assumption) ?_
            · intro wz hSw; (try dsimp only at hSw); go_simp; try rfl
            try simp only [Act.put, List.getElem_toArray, List.getElem_cons_succ, List.getElem_cons_zero, List.setIfInBounds_toArray, List.set_cons_zero, List.set_cons_succ]
            refine wpAnyH_take (i := 17) (v := .pointer (some ⟨w1.heap.size + 1, 0, none⟩)) rfl (by kernel_rfl) (by kernel_rfl) (by kernel_rfl) (fun _ _ _ h => h) (Or.inl ⟨by rfl, ?_⟩) (by assumption) ?_
            · intro wz hSw; (try dsimp only at hSw); go_simp; try rfl
            try simp only [Act.put, List.getElem_toArray, List.getElem_cons_succ, List.getElem_cons_zero, List.setIfInBounds_toArray, List.set_cons_zero, List.set_cons_succ]
            refine wpAnyH_take (i := 18) (v := .pointer (some ⟨w1.heap.size + 1, 2, none⟩)) rfl (by kernel_rfl) (by kernel_rfl) (by kernel_rfl) (fun _ _ _ h => h) (Or.inl ⟨by rfl, ?_⟩) (by assumption) ?_
            · intro wz hSw; (try dsimp only at hSw); go_simp; try rfl
            try simp only [Act.put, List.getElem_toArray, List.getElem_cons_succ, List.getElem_cons_zero, List.setIfInBounds_toArray, List.set_cons_zero, List.set_cons_succ]
            refine wpAnyH_take (i := 19) (v := .int .i64 (long : Int)) rfl (by kernel_rfl) (by kernel_rfl) (by kernel_rfl) (fun _ _ _ h => h) (Or.inl ⟨by rfl, ?_⟩) (by assumption) ?_
            · intro wz hSw; (try dsimp only at hSw); go_simp; try rfl
            try simp only [Act.put, List.getElem_toArray, List.getElem_cons_succ, List.getElem_cons_zero, List.setIfInBounds_toArray, List.set_cons_zero, List.set_cons_succ]
            refine wpAnyH_take (i := 20) (v := .pointer (some ⟨w1.heap.size + 1, 0, none⟩)) rfl (by kernel_rfl) (by kernel_rfl) (by kernel_rfl) (fun _ _ _ h => h) (Or.inl ⟨by rfl, ?_⟩) (by assumption) ?_
            · intro wz hSw; (try dsimp only at hSw); go_simp; try rfl
            try simp only [Act.put, List.getElem_toArray, List.getElem_cons_succ, List.getElem_cons_zero, List.setIfInBounds_toArray, List.set_cons_zero, List.set_cons_succ]
            refine wpAnyH_take (i := 21) (v := .pointer (some ⟨w1.heap.size + 1, 0, none⟩)) rfl (by kernel_rfl) (by kernel_rfl) (by kernel_rfl) (fun _ _ _ h => h) (Or.inl ⟨by rfl, ?_⟩) (by assumption) ?_
            · intro wz hSw; (try dsimp only at hSw); go_simp; try rfl
            try simp only [Act.put, List.getElem_toArray, List.getElem_cons_succ, List.getElem_cons_zero, List.setIfInBounds_toArray, List.set_cons_zero, List.set_cons_succ]
            refine wpAnyH_take (i := 22) (v := .pointer (some ⟨w1.heap.size + 1, 3, none⟩)) rfl (by kernel_rfl) (by kernel_rfl) (by kernel_rfl) (fun _ _ _ h => h) (Or.inl ⟨by rfl, ?_⟩) (by assumption) ?_
            · intro wz hSw; (try dsimp only at hSw); go_simp; try rfl
            try simp only [Act.put, List.getElem_toArray, List.getElem_cons_succ, List.getElem_cons_zero, List.setIfInBounds_toArray, List.set_cons_zero, List.set_cons_succ]
            refine wpAnyH_take (i := 23) (v := .slice (some ⟨ob, 0, none⟩) P.length oc) rfl (by kernel_rfl) (by kernel_rfl) (by kernel_rfl) (fun _ _ _ h => h) (Or.inl ⟨by rfl, ?_⟩) (by assumption) ?_
            · intro wz hSw; (try dsimp only at hSw); go_simp; try rfl
            try simp only [Act.put, List.getElem_toArray, List.getElem_cons_succ, List.getElem_cons_zero, List.setIfInBounds_toArray, List.set_cons_zero, List.set_cons_succ]
            refine wpAnyH_take (i := 24) (v := .int .i64 (P.length : Int)) rfl (by kernel_rfl) (by kernel_rfl) (by kernel_rfl) (fun _ _ _ h => h) (Or.inl ⟨by rfl, ?_⟩) (by assumption) ?_
            · intro wz hSw; (try dsimp only at hSw); go_simp; try rfl
            try simp only [Act.put, List.getElem_toArray, List.getElem_cons_succ, List.getElem_cons_zero, List.setIfInBounds_toArray, List.set_cons_zero, List.set_cons_succ]
            refine wpAnyH_take (i := 25) (v := .int .i64 rr) rfl (by kernel_rfl) (by kernel_rfl) (by kernel_rfl) (fun _ _ _ h => h) (Or.inl ⟨by rfl, ?_⟩) (by assumption) ?_
            · intro wz hSw; (try dsimp only at hSw); go_simp; try rfl
            try simp only [Act.put, List.getElem_toArray, List.getElem_cons_succ, List.getElem_cons_zero, List.setIfInBounds_toArray, List.set_cons_zero, List.set_cons_succ]
            refine wpAnyH_take (i := 26) (v := .bool false) rfl (by kernel_rfl) (by kernel_rfl) (by kernel_rfl) (fun _ _ _ h => h) (Or.inl ⟨by rfl, ?_⟩) (by assumption) ?_
            · intro wz hSw; (try dsimp only at hSw); go_simp; try rfl
            try simp only [Act.put, List.getElem_toArray, List.getElem_cons_succ, List.getElem_cons_zero, List.setIfInBounds_toArray, List.set_cons_zero, List.set_cons_succ]
            refine wpAnyH_take (i := 27) (v := .bool false) rfl (by kernel_rfl) (by kernel_rfl) (by kernel_rfl) (fun _ _ _ h => h) (Or.inl ⟨by rfl, ?_⟩) (by assumption) ?_
            · intro wz hSw; (try dsimp only at hSw); go_simp; try rfl
            try simp only [Act.put, List.getElem_toArray, List.getElem_cons_succ, List.getElem_cons_zero, List.setIfInBounds_toArray, List.set_cons_zero, List.set_cons_succ]
            refine wpAnyH_take (i := 28) (v := .bool false) rfl (by kernel_rfl) (by kernel_rfl) (by kernel_rfl) (fun _ _ _ h => h) (Or.inl ⟨by rfl, ?_⟩) (by assumption) ?_
            · intro wz hSw; (try dsimp only at hSw); go_simp; try rfl
            try simp only [Act.put, List.getElem_toArray, List.getElem_cons_succ, List.getElem_cons_zero, List.setIfInBounds_toArray, List.set_cons_zero, List.set_cons_succ]
            refine wpAnyH_take (i := 29) (v := .pointer (some ⟨w1.heap.size + 1, 0, none⟩)) rfl (by kernel_rfl) (by kernel_rfl) (by kernel_rfl) (fun _ _ _ h => h) (Or.inl ⟨by rfl, ?_⟩) (by assumption) ?_
            · intro wz hSw; (try dsimp only at hSw); go_simp; try rfl
            try simp only [Act.put, List.getElem_toArray, List.getElem_cons_succ, List.getElem_cons_zero, List.setIfInBounds_toArray, List.set_cons_zero, List.set_cons_succ]
            refine wpAnyH_take (i := 30) (v := .pointer (some ⟨w1.heap.size + 1, 0, none⟩)) rfl (by kernel_rfl) (by kernel_rfl) (by kernel_rfl) (fun _ _ _ h => h) (Or.inl ⟨by rfl, ?_⟩) (by assumption) ?_
            · intro wz hSw; (try dsimp only at hSw); go_simp; try rfl
            try simp only [Act.put, List.getElem_toArray, List.getElem_cons_succ, List.getElem_cons_zero, List.setIfInBounds_toArray, List.set_cons_zero, List.set_cons_succ]
            refine wpAnyH_take (i := 31) (v := .pointer (some ⟨w1.heap.size + 1, 5, none⟩)) rfl (by kernel_rfl) (by kernel_rfl) (by kernel_rfl) (fun _ _ _ h => h) (Or.inl ⟨by rfl, ?_⟩) (by assumption) ?_
            · intro wz hSw; (try dsimp only at hSw); go_simp; try rfl
            try simp only [Act.put, List.getElem_toArray, List.getElem_cons_succ, List.getElem_cons_zero, List.setIfInBounds_toArray, List.set_cons_zero, List.set_cons_succ]
            refine wpAnyH_take (i := 32) (v := .func (.func 164) #[] #[]) rfl (by kernel_rfl) (by kernel_rfl) (by kernel_rfl) (fun _ _ _ h => h) (Or.inl ⟨by rfl, ?_⟩) (by assumption) ?_
            · intro wz hSw; (try dsimp only at hSw); go_simp; try rfl
            try simp only [Act.put, List.getElem_toArray, List.getElem_cons_succ, List.getElem_cons_zero, List.setIfInBounds_toArray, List.set_cons_zero, List.set_cons_succ]
            refine wpAnyH_take (i := 33) (v := .pointer (some ⟨w1.heap.size + 1, 0, none⟩)) rfl (by kernel_rfl) (by kernel_rfl) (by kernel_rfl) (fun _ _ _ h => h) (Or.inl ⟨by rfl, ?_⟩) (by assumption) ?_
            · intro wz hSw; (try dsimp only at hSw); go_simp; try rfl
            try simp only [Act.put, List.getElem_toArray, List.getElem_cons_succ, List.getElem_cons_zero, List.setIfInBounds_toArray, List.set_cons_zero, List.set_cons_succ]
            refine wpAnyH_take (i := 34) (v := .pointer (some ⟨w1.heap.size + 1, 0, none⟩)) rfl (by kernel_rfl) (by kernel_rfl) (by kernel_rfl) (fun _ _ _ h => h) (Or.inl ⟨by rfl, ?_⟩) (by assumption) ?_
            · intro wz hSw; (try dsimp only at hSw); go_simp; try rfl
            try simp only [Act.put, List.getElem_toArray, List.getElem_cons_succ, List.getElem_cons_zero, List.setIfInBounds_toArray, List.set_cons_zero, List.set_cons_succ]
            refine wpAnyH_take (i := 35) (v := .pointer (some ⟨w1.heap.size + 1, 3, none⟩)) rfl (by kernel_rfl) (by kernel_rfl) (by kernel_rfl) (fun _ _ _ h => h) (Or.inl ⟨by rfl, ?_⟩) (by assumption) ?_
            · intro wz hSw; (try dsimp only at hSw); go_simp; try rfl
            try simp only [Act.put, List.getElem_toArray, List.getElem_cons_succ, List.getElem_cons_zero, List.setIfInBounds_toArray, List.set_cons_zero, List.set_cons_succ]
            refine wpAnyH_take (i := 36) (v := .slice (some ⟨ob, 0, none⟩) P.length oc) rfl (by kernel_rfl) (by kernel_rfl) (by kernel_rfl) (fun _ _ _ h => h) (Or.inl ⟨by rfl, ?_⟩) (by assumption) ?_
            · intro wz hSw; (try dsimp only at hSw); go_simp; try rfl
            try simp only [Act.put, List.getElem_toArray, List.getElem_cons_succ, List.getElem_cons_zero, List.setIfInBounds_toArray, List.set_cons_zero, List.set_cons_succ]
            refine wpAnyH_take (i := 37) (v := .int .i64 (v : Int)) rfl (by kernel_rfl) (by kernel_rfl) (by kernel_rfl) (fun _ _ _ h => h) (Or.inl ⟨by rfl, ?_⟩) (by assumption) ?_
            · intro wz hSw; (try dsimp only at hSw); go_simp; try rfl
            try simp only [Act.put, List.getElem_toArray, List.getElem_cons_succ, List.getElem_cons_zero, List.setIfInBounds_toArray, List.set_cons_zero, List.set_cons_succ]
            refine wpAnyH_ready (rs := [38]) (by kernel_rfl) (by simp) ?_
            refine AllReadyH.cons rfl (fun K hK => ?_) AllReadyH.nil
            go_simp
            go_at_call 164
            refine (anyVertex_any _ _ _).mono ?_
            rintro e w9 ⟨rfl, rfl⟩
            refine hK.out _ _ ?_ (fun hHeld => ?_)
            · exact ⟨hc1, hcd, hc2, hc3, hc5⟩
            clear hK K
            try simp only [Act.put, List.getElem_toArray, List.getElem_cons_succ, List.getElem_cons_zero, List.setIfInBounds_toArray, List.set_cons_zero, List.set_cons_succ]
            refine wpAnyH_take (i := 39) (v := .bool false) rfl (by kernel_rfl) (by kernel_rfl) (by kernel_rfl) (fun _ _ _ h => h) (Or.inl ⟨by rfl, ?_⟩) (by assumption) ?_
            · intro wz hSw; (try dsimp only at hSw); go_simp; try rfl
            try simp only [Act.put, List.getElem_toArray, List.getElem_cons_succ, List.getElem_cons_zero, List.setIfInBounds_toArray, List.set_cons_zero, List.set_cons_succ]
            refine wpAnyH_take (i := 40) (v := .bool false) rfl (by kernel_rfl) (by kernel_rfl) (by kernel_rfl) (fun _ _ _ h => h) (Or.inl ⟨by rfl, ?_⟩) (by assumption) ?_
            · intro wz hSw; (try dsimp only at hSw); go_simp; try rfl
            try simp only [Act.put, List.getElem_toArray, List.getElem_cons_succ, List.getElem_cons_zero, List.setIfInBounds_toArray, List.set_cons_zero, List.set_cons_succ]
            refine wpAnyH_done (by kernel_rfl) ?_ _
            obtain ⟨pv, hpv⟩ : ∃ pv, pv = 2 ^ v := ⟨_, rfl⟩
            have hp16 : pv < 65536 := by rw [hpv]; exact pow_lt16 v (by omega)
            have ONE : Hid (∀ w, Calls Tryd.prog 156 #[.int .i64 (v : Int)] w fun e w' => e = .returned (.int .u32 (pv : Int)) ∧ w = w') := Lib.hid (by rw [hpv]; exact fun w => one_any (v : Int) v rfl (by omega) w)
            obtain ⟨us2, hus2⟩ : ∃ us2, us2 = us ||| pv := ⟨_, rfl⟩
            have hor : bits BinOp.or IntKind.u32 (us : Int) (pv : Int) = (us2 : Int) := by rw [hus2]; exact or_u32 us pv hus16 hp16
            have h216 : us2 < 65536 := by rw [hus2]; exact or_lt16 us pv hus16 hp16
            have hand : bits BinOp.andNot IntKind.u32 (us2 : Int) (pv : Int) = (us : Int) := by
              have := u32_andNot_nat us2 pv (by omega) (by omega)
              rw [this, hus2, HUS.out, hpv]
              have h3 := mask_backLp (o := P) (v := v) (fun u hu => by have := HIN.out u hu; omega) (by omega) HVP.out
              show ((sub (mask (natInts P) ||| 2 ^ v) (2 ^ v) : Nat) : Int) = _
              rw [h3]
            have I1 : Hid (us2 = mask (natInts (P ++ [v]))) := Lib.hid (by rw [hus2, HUS.out, hpv, mask_appLp])
            have I2 : Hid (∀ x ∈ P ++ [v], x < n) := Lib.hid (fun x hx => by
              rcases List.mem_append.1 hx with h | h
              · exact HIN.out x h
              · rw [List.mem_singleton] at h; omega)
            have I3 : Hid ((P ++ [v]).length + r = long) := Lib.hid (by rw [List.length_append, List.length_singleton]; omega)
            have I4 : Hid ((P ++ [v]).headD 0 = v0) := Lib.hid (by rw [snoc_head HPN.out]; exact HHD.out)
            have I5 : Hid ((P ++ [v]).Nodup) := Lib.hid (List.nodup_append.2 ⟨HND.out, by simp, fun a ha b hb => by rw [List.mem_singleton] at hb; subst hb; exact fun e => HVP.out (e ▸ ha)⟩)
            have I6 : Hid (Chn E (P ++ [v])) := Lib.hid ((chn_snoc P v).2 ⟨HCH.out, .inr HVE.out⟩)
            have LO : Hid ((P ++ [v]).length = P.length + 1) := Lib.hid (by simp)
            have TK : Hid ((P ++ [v]).take P.length = P) := Lib.hid (by simp)
            obtain ⟨res, hres⟩ : ∃ res, res = lpF n E r (P ++ [v]) := ⟨_, rfl⟩
            have HRES := Lib.hid hres
            clear hpv hus2 hres hc1 hc2 hc5 hcd hcv
            go_upto_region 8 with fail
            refine wp_region_stg [(18, fun w' => w'.cell? ⟨w1.heap.size + 1, 3, none⟩ = some (.slice (some ⟨ob, 0, none⟩) P.length oc)), (21, fun w' => w'.cell? ⟨w1.heap.size + 1, 4, none⟩ = some (.int .u32 (us : Int)))] (by kernel_rfl) ?_ (fun hHeld => ?_)
            · exact .keep hc3 (.keep hc4 .nil)
            refine wpStg_pure (i := 0) (v := .pointer (some ⟨w1.heap.size + 1, 0, none⟩)) rfl (by kernel_rfl) (by kernel_rfl) (by kernel_rfl) (by kernel_rfl) (fun _ _ _ h => h) (Or.inl ⟨by rfl, ?_⟩) (by assumption) ?_
            · intro wz _; go_simp; try rfl
            try simp only [Act.put, List.getElem_toArray, List.getElem_cons_succ, List.getElem_cons_zero, List.setIfInBounds_toArray, List.set_cons_zero, List.set_cons_succ]
            refine wpStg_pure (i := 1) (v := .pointer (some ⟨w1.heap.size + 1, 0, none⟩)) rfl (by kernel_rfl) (by kernel_rfl) (by kernel_rfl) (by kernel_rfl) (fun _ _ _ h => h) (Or.inl ⟨by rfl, ?_⟩) (by assumption) ?_
            · intro wz _; go_simp; try rfl
            try simp only [Act.put, List.getElem_toArray, List.getElem_cons_succ, List.getElem_cons_zero, List.setIfInBounds_toArray, List.set_cons_zero, List.set_cons_succ]
            refine wpStg_pure (i := 2) (v := .pointer (some ⟨w1.heap.size + 1, 0, none⟩)) rfl (by kernel_rfl) (by kernel_rfl) (by kernel_rfl) (by kernel_rfl) (fun _ _ _ h => h) (Or.inl ⟨by rfl, ?_⟩) (by assumption) ?_
            · intro wz _; go_simp; try rfl
            try simp only [Act.put, List.getElem_toArray, List.getElem_cons_succ, List.getElem_cons_zero, List.setIfInBounds_toArray, List.set_cons_zero, List.set_cons_succ]
            refine wpStg_pure (i := 3) (v := .pointer (some ⟨w1.heap.size + 1, 0, none⟩)) rfl (by kernel_rfl) (by kernel_rfl) (by kernel_rfl) (by kernel_rfl) (fun _ _ _ h => h) (Or.inl ⟨by rfl, ?_⟩) (by assumption) ?_
            · intro wz _; go_simp; try rfl
            try simp only [Act.put, List.getElem_toArray, List.getElem_cons_succ, List.getElem_cons_zero, List.setIfInBounds_toArray, List.set_cons_zero, List.set_cons_succ]
            refine wpStg_pure (i := 4) (v := .pointer (some ⟨w1.heap.size + 1, 3, none⟩)) rfl (by kernel_rfl) (by kernel_rfl) (by kernel_rfl) (by kernel_rfl) (fun _ _ _ h => h) (Or.inl ⟨by rfl, ?_⟩) (by assumption) ?_
            · intro wz _; go_simp; try rfl
            try simp only [Act.put, List.getElem_toArray, List.getElem_cons_succ, List.getElem_cons_zero, List.setIfInBounds_toArray, List.set_cons_zero, List.set_cons_succ]
            refine wpStg_take (m := 0) (i := 5) (v := .slice (some ⟨ob, 0, none⟩) P.length oc) rfl rfl (by kernel_rfl) (by kernel_rfl) (by kernel_rfl) (by kernel_rfl) (by kernel_rfl) (by kernel_rfl) (fun _ _ _ h => h) (Or.inl ⟨by rfl, ?_⟩) (by assumption) ?_
            · intro wz hSw; (try dsimp only at hSw); go_simp; try rfl
            try simp only [Act.put, List.getElem_toArray, List.getElem_cons_succ, List.getElem_cons_zero, List.setIfInBounds_toArray, List.set_cons_zero, List.set_cons_succ]
            refine wpStg_pure (i := 6) (v := .int .i64 (v : Int)) rfl (by kernel_rfl) (by kernel_rfl) (by kernel_rfl) (by kernel_rfl) (fun _ _ _ h => h) (Or.inl ⟨by rfl, ?_⟩) (by assumption) ?_
            · intro wz _; go_simp; try rfl
            try simp only [Act.put, List.getElem_toArray, List.getElem_cons_succ, List.getElem_cons_zero, List.setIfInBounds_toArray, List.set_cons_zero, List.set_cons_succ]
            refine wpStg_pure (i := 9) (v := .pointer (some ⟨w1.heap.size + 1, 0, none⟩)) rfl (by kernel_rfl) (by kernel_rfl) (by kernel_rfl) (by kernel_rfl) (fun _ _ _ h => h) (Or.inl ⟨by rfl, ?_⟩) (by assumption) ?_
            · intro wz _; go_simp; try rfl
            try simp only [Act.put, List.getElem_toArray, List.getElem_cons_succ, List.getElem_cons_zero, List.setIfInBounds_toArray, List.set_cons_zero, List.set_cons_succ]
            refine wpStg_pure (i := 10) (v := .pointer (some ⟨w1.heap.size + 1, 0, none⟩)) rfl (by kernel_rfl) (by kernel_rfl) (by kernel_rfl) (by kernel_rfl) (fun _ _ _ h => h) (Or.inl ⟨by rfl, ?_⟩) (by assumption) ?_
            · intro wz _; go_simp; try rfl
            try simp only [Act.put, List.getElem_toArray, List.getElem_cons_succ, List.getElem_cons_zero, List.setIfInBounds_toArray, List.set_cons_zero, List.set_cons_succ]
            refine wpStg_pure (i := 11) (v := .pointer (some ⟨w1.heap.size + 1, 4, none⟩)) rfl (by kernel_rfl) (by kernel_rfl) (by kernel_rfl) (by kernel_rfl) (fun _ _ _ h => h) (Or.inl ⟨by rfl, ?_⟩) (by assumption) ?_
            · intro wz _; go_simp; try rfl
            try simp only [Act.put, List.getElem_toArray, List.getElem_cons_succ, List.getElem_cons_zero, List.setIfInBounds_toArray, List.set_cons_zero, List.set_cons_succ]
            refine wpStg_take (m := 1) (i := 12) (v := .int .u32 (us : Int)) rfl rfl (by kernel_rfl) (by kernel_rfl) (by kernel_rfl) (by kernel_rfl) (by kernel_rfl) (by kernel_rfl) (fun _ _ _ h => h) (Or.inl ⟨by rfl, ?_⟩) (by assumption) ?_
            · intro wz hSw; (try dsimp only at hSw); go_simp; try rfl
            try simp only [Act.put, List.getElem_toArray, List.getElem_cons_succ, List.getElem_cons_zero, List.setIfInBounds_toArray, List.set_cons_zero, List.set_cons_succ]
            refine wpStg_pure (i := 13) (v := .int .i64 (v : Int)) rfl (by kernel_rfl) (by kernel_rfl) (by kernel_rfl) (by kernel_rfl) (fun _ _ _ h => h) (Or.inl ⟨by rfl, ?_⟩) (by assumption) ?_
            · intro wz _; go_simp; try rfl
            try simp only [Act.put, List.getElem_toArray, List.getElem_cons_succ, List.getElem_cons_zero, List.setIfInBounds_toArray, List.set_cons_zero, List.set_cons_succ]
            refine wpStg_one (i := 7) (by kernel_rfl) rfl (fun K hK => ?_)
            go_simp
            refine hK.out _ _ ?_ (fun hHeld => ?_)
            · exact .keep ((below_alloc _ _).at' hc3) (.keep ((below_alloc _ _).at' hc4) .nil)
            clear hK K
            try simp only [Act.put, List.getElem_toArray, List.getElem_cons_succ, List.getElem_cons_zero, List.setIfInBounds_toArray, List.set_cons_zero, List.set_cons_succ]
            refine wpStg_one (i := 8) (by kernel_rfl) rfl (fun K hK => ?_)
            refine step_app1f ty_int (w := wr.drew.drew) (s := .tmp 106) (x := .tmp 108) (v := .slice (some ⟨ob, 0, none⟩) P.length oc) (n := P.length) (xs := (natInts P).map (Value.int .i64)) (base := w1.heap.size) (el := .int .i64 (v : Int)) rfl rfl rfl HOR.out rfl rfl (by omega) HSZ.out ?_
            intro b8 c8 w8 hown8 hg8 hn8
            have hg8x : wr.grownBy w8 (Value.slice (some ⟨ob, 0, none⟩) P.length oc).ownBlock := ⟨hg8.os, hg8.tape, hg8.output, hg8.size, hg8.block⟩
            have hx8 : w8.heap[w1.heap.size + 1]? = _ := hg8x.block _ hlx (fun e => HCI.out.ne _ e.symm rfl)
            have C8 := HCI.out.cs.to hx8
            have O8 := Lib.hid (HCI.out.push (us' := us2) hown8 hg8x hn8)
            have hc3y := C8.c3
            have hc4y := C8.c4
            have hf3y := C8.free 3
            have hc4z := (C8.s3 (.slice (some ⟨b8, 0, none⟩) (P.length + 1) c8)).c4
            have hf4z := (C8.s3 (.slice (some ⟨b8, 0, none⟩) (P.length + 1) c8)).free 4
            have F8 := Lib.hid (Fr.of_grown (xb := w1.heap.size + 1) (i := 3) (j := 4) (n' := P.length + 1) (c' := c8) (u1 := .slice (some ⟨b8, 0, none⟩) (P.length + 1) c8) (u2 := .int .u32 (us2 : Int)) hg8x hn8)
            clear hown8 hg8 hg8x hx8 hn8 C8
            refine hK.out _ _ ?_ (fun hHeld => ?_)
            · exact .keep hc3y (.keep hc4y .nil)
            clear hK K
            try simp only [Act.put, List.getElem_toArray, List.getElem_cons_succ, List.getElem_cons_zero, List.setIfInBounds_toArray, List.set_cons_zero, List.set_cons_succ]
            refine wpStg_one (i := 14) (by kernel_rfl) rfl (fun K hK => ?_)
            go_simp
            go_at_call 156
            refine (ONE.out _).mono ?_
            rintro e w9 ⟨rfl, rfl⟩
            refine hK.out _ _ ?_ (fun hHeld => ?_)
            · exact .keep hc3y (.keep hc4y .nil)
            clear hK K
            try simp only [Act.put, List.getElem_toArray, List.getElem_cons_succ, List.getElem_cons_zero, List.setIfInBounds_toArray, List.set_cons_zero, List.set_cons_succ]
            refine wpStg_pure (i := 15) (v := .int .u32 (us2 : Int)) rfl (by kernel_rfl) (by kernel_rfl) (by kernel_rfl) (by kernel_rfl) (fun _ _ _ h => h) (Or.inl ⟨by rfl, ?_⟩) (by assumption) ?_
            · intro wz _; go_simp; try rfl
            try simp only [Act.put, List.getElem_toArray, List.getElem_cons_succ, List.getElem_cons_zero, List.setIfInBounds_toArray, List.set_cons_zero, List.set_cons_succ]
            refine wpStg_pure (i := 16) (v := .pointer (some ⟨w1.heap.size + 1, 0, none⟩)) rfl (by kernel_rfl) (by kernel_rfl) (by kernel_rfl) (by kernel_rfl) (fun _ _ _ h => h) (Or.inl ⟨by rfl, ?_⟩) (by assumption) ?_
            · intro wz _; go_simp; try rfl
            try simp only [Act.put, List.getElem_toArray, List.getElem_cons_succ, List.getElem_cons_zero, List.setIfInBounds_toArray, List.set_cons_zero, List.set_cons_succ]
            refine wpStg_pure (i := 17) (v := .pointer (some ⟨w1.heap.size + 1, 3, none⟩)) rfl (by kernel_rfl) (by kernel_rfl) (by kernel_rfl) (by kernel_rfl) (fun _ _ _ h => h) (Or.inl ⟨by rfl, ?_⟩) (by assumption) ?_
            · intro wz _; go_simp; try rfl
            try simp only [Act.put, List.getElem_toArray, List.getElem_cons_succ, List.getElem_cons_zero, List.setIfInBounds_toArray, List.set_cons_zero, List.set_cons_succ]
            refine wpStg_one (i := 18) (by kernel_rfl) rfl (fun K hK => ?_)
            go_simp
            refine hK.out _ _ ?_ (fun hHeld => ?_)
            · exact .skip (by kernel_rfl) (.keep hc4z .nil)
            clear hK K
            try simp only [Act.put, List.getElem_toArray, List.getElem_cons_succ, List.getElem_cons_zero, List.setIfInBounds_toArray, List.set_cons_zero, List.set_cons_succ]
            refine wpStg_pure (i := 19) (v := .pointer (some ⟨w1.heap.size + 1, 0, none⟩)) rfl (by kernel_rfl) (by kernel_rfl) (by kernel_rfl) (by kernel_rfl) (fun _ _ _ h => h) (Or.inl ⟨by rfl, ?_⟩) (by assumption) ?_
            · intro wz _; go_simp; try rfl
            try simp only [Act.put, List.getElem_toArray, List.getElem_cons_succ, List.getElem_cons_zero, List.setIfInBounds_toArray, List.set_cons_zero, List.set_cons_succ]
            refine wpStg_pure (i := 20) (v := .pointer (some ⟨w1.heap.size + 1, 4, none⟩)) rfl (by kernel_rfl) (by kernel_rfl) (by kernel_rfl) (by kernel_rfl) (fun _ _ _ h => h) (Or.inl ⟨by rfl, ?_⟩) (by assumption) ?_
            · intro wz _; go_simp; try rfl
            try simp only [Act.put, List.getElem_toArray, List.getElem_cons_succ, List.getElem_cons_zero, List.setIfInBounds_toArray, List.set_cons_zero, List.set_cons_succ]
            refine wpStg_one (i := 21) (by kernel_rfl) rfl (fun K hK => ?_)
            go_simp
            refine hK.out _ _ ?_ (fun hHeld => ?_)
            · exact .skip (by kernel_rfl) (.skip (by kernel_rfl) .nil)
            clear hK K
            try simp only [Act.put, List.getElem_toArray, List.getElem_cons_succ, List.getElem_cons_zero, List.setIfInBounds_toArray, List.set_cons_zero, List.set_cons_succ]
            refine wpStg_done (by kernel_rfl) ?_ _
            cases res with
            | none =>
              have HNX := Lib.hid (NEXT.out HRES.out.symm)
              go_upto_region 11 with (go_at_call 214; refine (IH.out (P ++ [v]) us2 _ _ I1.out I2.out I4.out (by rw [LO.out]; exact Nat.succ_pos _) I5.out I6.out I3.out O8.out).mono ?_; rintro e w10 ⟨he, us3, ov3, hci2, hu3, hf3⟩; rw [← HRES.out] at he hci2 hu3; change e = Ending.returned (.bool false) at he; subst he; rw [hu3 rfl] at hci2; have HC2 := Lib.hid hci2; have HF3 := Lib.hid hf3; clear hci2 hf3 hu3)
              have hci3 : LsI w1 w10 (.slice (some ⟨hb, ho, none⟩) n hc) (.slice (some ⟨fb, 0, none⟩) n n) long (P ++ [v]) us2 ov3 := HC2.out
              obtain ⟨ob2, oc2, rfl, hoc2⟩ := owns_capLp hci3.ord (by rw [LO.out]; exact Nat.succ_pos _)
              have CUT := Lib.hid ((hci3.cut (i := P.length) (by rw [LO.out]; omega) us).next (below_dN (Below.refl _ _) 1))
              obtain ⟨lo2, hlo2⟩ : ∃ lo2, lo2 = (P ++ [v]).length := ⟨_, rfl⟩
              have hcs := hci3.cs
              rw [← hlo2] at hcs hoc2 HF3
              have hlo3 := LO.out
              rw [← hlo2] at hlo3
              have hso : (P.length : Int) ≤ (oc2 : Int) := by omega
              have hso0 : (0 : Int) ≤ (P.length : Int) := by omega
              have hwl : IntKind.i64.wrap ((lo2 : Int) - 1) = (P.length : Int) := by rw [IntKind.wrap_i64]; omega
              have hd3 := hcs.c3
              have hd4 := hcs.c4
              have hfd3 := hcs.free 3
              have hd4z := (hcs.s3 (.slice (some ⟨ob2, 0, none⟩) P.length oc2)).c4
              have hfd4 := (hcs.s3 (.slice (some ⟨ob2, 0, none⟩) P.length oc2)).free 4
              clear hci3 hlo2 hcs hoc2 hlo3 HC2
              refine wp_region_stg [(22, fun w' => w'.cell? ⟨w1.heap.size + 1, 3, none⟩ = some (.slice (some ⟨ob2, 0, none⟩) lo2 oc2)), (25, fun w' => w'.cell? ⟨w1.heap.size + 1, 4, none⟩ = some (.int .u32 (us2 : Int)))] (by kernel_rfl) ?_ (fun hHeld => ?_)
              · exact .keep hd3 (.keep hd4 .nil)
              refine wpStg_pure (i := 0) (v := .pointer (some ⟨w1.heap.size + 1, 0, none⟩)) rfl (by kernel_rfl) (by kernel_rfl) (by kernel_rfl) (by kernel_rfl) (fun _ _ _ h => h) (Or.inl ⟨by rfl, ?_⟩) (by assumption) ?_
              · intro wz _; go_simp; try rfl
              try simp only [Act.put, List.getElem_toArray, List.getElem_cons_succ, List.getElem_cons_zero, List.setIfInBounds_toArray, List.set_cons_zero, List.set_cons_succ]
              refine wpStg_pure (i := 1) (v := .pointer (some ⟨w1.heap.size + 1, 0, none⟩)) rfl (by kernel_rfl) (by kernel_rfl) (by kernel_rfl) (by kernel_rfl) (fun _ _ _ h => h) (Or.inl ⟨by rfl, ?_⟩) (by assumption) ?_
              · intro wz _; go_simp; try rfl
              try simp only [Act.put, List.getElem_toArray, List.getElem_cons_succ, List.getElem_cons_zero, List.setIfInBounds_toArray, List.set_cons_zero, List.set_cons_succ]
              refine wpStg_pure (i := 2) (v := .pointer (some ⟨w1.heap.size + 1, 0, none⟩)) rfl (by kernel_rfl) (by kernel_rfl) (by kernel_rfl) (by kernel_rfl) (fun _ _ _ h => h) (Or.inl ⟨by rfl, ?_⟩) (by assumption) ?_
              · intro wz _; go_simp; try rfl
              try simp only [Act.put, List.getElem_toArray, List.getElem_cons_succ, List.getElem_cons_zero, List.setIfInBounds_toArray, List.set_cons_zero, List.set_cons_succ]
              refine wpStg_pure (i := 3) (v := .pointer (some ⟨w1.heap.size + 1, 0, none⟩)) rfl (by kernel_rfl) (by kernel_rfl) (by kernel_rfl) (by kernel_rfl) (fun _ _ _ h => h) (Or.inl ⟨by rfl, ?_⟩) (by assumption) ?_
              · intro wz _; go_simp; try rfl
              try simp only [Act.put, List.getElem_toArray, List.getElem_cons_succ, List.getElem_cons_zero, List.setIfInBounds_toArray, List.set_cons_zero, List.set_cons_succ]
              refine wpStg_pure (i := 4) (v := .pointer (some ⟨w1.heap.size + 1, 3, none⟩)) rfl (by kernel_rfl) (by kernel_rfl) (by kernel_rfl) (by kernel_rfl) (fun _ _ _ h => h) (Or.inl ⟨by rfl, ?_⟩) (by assumption) ?_
              · intro wz _; go_simp; try rfl
              try simp only [Act.put, List.getElem_toArray, List.getElem_cons_succ, List.getElem_cons_zero, List.setIfInBounds_toArray, List.set_cons_zero, List.set_cons_succ]
              refine wpStg_take (m := 0) (i := 5) (v := .slice (some ⟨ob2, 0, none⟩) lo2 oc2) rfl rfl (by kernel_rfl) (by kernel_rfl) (by kernel_rfl) (by kernel_rfl) (by kernel_rfl) (by kernel_rfl) (fun _ _ _ h => h) (Or.inl ⟨by rfl, ?_⟩) (by assumption) ?_
              · intro wz hSw; (try dsimp only at hSw); go_simp; try rfl
              try simp only [Act.put, List.getElem_toArray, List.getElem_cons_succ, List.getElem_cons_zero, List.setIfInBounds_toArray, List.set_cons_zero, List.set_cons_succ]
              refine wpStg_pure (i := 6) (v := .pointer (some ⟨w1.heap.size + 1, 0, none⟩)) rfl (by kernel_rfl) (by kernel_rfl) (by kernel_rfl) (by kernel_rfl) (fun _ _ _ h => h) (Or.inl ⟨by rfl, ?_⟩) (by assumption) ?_
              · intro wz _; go_simp; try rfl
              try simp only [Act.put, List.getElem_toArray, List.getElem_cons_succ, List.getElem_cons_zero, List.setIfInBounds_toArray, List.set_cons_zero, List.set_cons_succ]
              refine wpStg_pure (i := 7) (v := .pointer (some ⟨w1.heap.size + 1, 0, none⟩)) rfl (by kernel_rfl) (by kernel_rfl) (by kernel_rfl) (by kernel_rfl) (fun _ _ _ h => h) (Or.inl ⟨by rfl, ?_⟩) (by assumption) ?_
              · intro wz _; go_simp; try rfl
              try simp only [Act.put, List.getElem_toArray, List.getElem_cons_succ, List.getElem_cons_zero, List.setIfInBounds_toArray, List.set_cons_zero, List.set_cons_succ]
              refine wpStg_pure (i := 8) (v := .pointer (some ⟨w1.heap.size + 1, 3, none⟩)) rfl (by kernel_rfl) (by kernel_rfl) (by kernel_rfl) (by kernel_rfl) (fun _ _ _ h => h) (Or.inl ⟨by rfl, ?_⟩) (by assumption) ?_
              · intro wz _; go_simp; try rfl
              try simp only [Act.put, List.getElem_toArray, List.getElem_cons_succ, List.getElem_cons_zero, List.setIfInBounds_toArray, List.set_cons_zero, List.set_cons_succ]
              refine wpStg_take (m := 0) (i := 9) (v := .slice (some ⟨ob2, 0, none⟩) lo2 oc2) rfl rfl (by kernel_rfl) (by kernel_rfl) (by kernel_rfl) (by kernel_rfl) (by kernel_rfl) (by kernel_rfl) (fun _ _ _ h => h) (Or.inl ⟨by rfl, ?_⟩) (by assumption) ?_
              · intro wz hSw; (try dsimp only at hSw); go_simp; try rfl
              try simp only [Act.put, List.getElem_toArray, List.getElem_cons_succ, List.getElem_cons_zero, List.setIfInBounds_toArray, List.set_cons_zero, List.set_cons_succ]
              refine wpStg_pure (i := 10) (v := .int .i64 (lo2 : Int)) rfl (by kernel_rfl) (by kernel_rfl) (by kernel_rfl) (by kernel_rfl) (fun _ _ _ h => h) (Or.inl ⟨by rfl, ?_⟩) (by assumption) ?_
              · intro wz _; go_simp; try rfl
              try simp only [Act.put, List.getElem_toArray, List.getElem_cons_succ, List.getElem_cons_zero, List.setIfInBounds_toArray, List.set_cons_zero, List.set_cons_succ]
              refine wpStg_pure (i := 11) (v := .int .i64 (P.length : Int)) rfl (by kernel_rfl) (by kernel_rfl) (by kernel_rfl) (by kernel_rfl) (fun _ _ _ h => h) (Or.inl ⟨by rfl, ?_⟩) (by assumption) ?_
              · intro wz _; go_simp; try rfl
              try simp only [Act.put, List.getElem_toArray, List.getElem_cons_succ, List.getElem_cons_zero, List.setIfInBounds_toArray, List.set_cons_zero, List.set_cons_succ]
              refine wpStg_pure (i := 12) (v := .slice (some ⟨ob2, 0, none⟩) P.length oc2) rfl (by kernel_rfl) (by kernel_rfl) (by kernel_rfl) (by kernel_rfl) (fun _ _ _ h => h) (Or.inl ⟨by rfl, ?_⟩) (by assumption) ?_
              · intro wz _; go_simp; try rfl
              try simp only [Act.put, List.getElem_toArray, List.getElem_cons_succ, List.getElem_cons_zero, List.setIfInBounds_toArray, List.set_cons_zero, List.set_cons_succ]
              refine wpStg_pure (i := 13) (v := .pointer (some ⟨w1.heap.size + 1, 0, none⟩)) rfl (by kernel_rfl) (by kernel_rfl) (by kernel_rfl) (by kernel_rfl) (fun _ _ _ h => h) (Or.inl ⟨by rfl, ?_⟩) (by assumption) ?_
              · intro wz _; go_simp; try rfl
              try simp only [Act.put, List.getElem_toArray, List.getElem_cons_succ, List.getElem_cons_zero, List.setIfInBounds_toArray, List.set_cons_zero, List.set_cons_succ]
              refine wpStg_pure (i := 14) (v := .pointer (some ⟨w1.heap.size + 1, 0, none⟩)) rfl (by kernel_rfl) (by kernel_rfl) (by kernel_rfl) (by kernel_rfl) (fun _ _ _ h => h) (Or.inl ⟨by rfl, ?_⟩) (by assumption) ?_
              · intro wz _; go_simp; try rfl
              try simp only [Act.put, List.getElem_toArray, List.getElem_cons_succ, List.getElem_cons_zero, List.setIfInBounds_toArray, List.set_cons_zero, List.set_cons_succ]
              refine wpStg_pure (i := 15) (v := .pointer (some ⟨w1.heap.size + 1, 4, none⟩)) rfl (by kernel_rfl) (by kernel_rfl) (by kernel_rfl) (by kernel_rfl) (fun _ _ _ h => h) (Or.inl ⟨by rfl, ?_⟩) (by assumption) ?_
              · intro wz _; go_simp; try rfl
              try simp only [Act.put, List.getElem_toArray, List.getElem_cons_succ, List.getElem_cons_zero, List.setIfInBounds_toArray, List.set_cons_zero, List.set_cons_succ]
              refine wpStg_take (m := 1) (i := 16) (v := .int .u32 (us2 : Int)) rfl rfl (by kernel_rfl) (by kernel_rfl) (by kernel_rfl) (by kernel_rfl) (by kernel_rfl) (by kernel_rfl) (fun _ _ _ h => h) (Or.inl ⟨by rfl, ?_⟩) (by assumption) ?_
              · intro wz hSw; (try dsimp only at hSw); go_simp; try rfl
              try simp only [Act.put, List.getElem_toArray, List.getElem_cons_succ, List.getElem_cons_zero, List.setIfInBounds_toArray, List.set_cons_zero, List.set_cons_succ]
              refine wpStg_pure (i := 17) (v := .int .i64 (v : Int)) rfl (by kernel_rfl) (by kernel_rfl) (by kernel_rfl) (by kernel_rfl) (fun _ _ _ h => h) (Or.inl ⟨by rfl, ?_⟩) (by assumption) ?_
              · intro wz _; go_simp; try rfl
              try simp only [Act.put, List.getElem_toArray, List.getElem_cons_succ, List.getElem_cons_zero, List.setIfInBounds_toArray, List.set_cons_zero, List.set_cons_succ]
              refine wpStg_one (i := 18) (by kernel_rfl) rfl (fun K hK => ?_)
              go_simp
              go_at_call 156
              refine (ONE.out _).mono ?_
              rintro e w9 ⟨rfl, rfl⟩
              refine hK.out _ _ ?_ (fun hHeld => ?_)
              · exact .keep hd3 (.keep hd4 .nil)
              clear hK K
              try simp only [Act.put, List.getElem_toArray, List.getElem_cons_succ, List.getElem_cons_zero, List.setIfInBounds_toArray, List.set_cons_zero, List.set_cons_succ]
              refine wpStg_pure (i := 19) (v := .int .u32 (us : Int)) rfl (by kernel_rfl) (by kernel_rfl) (by kernel_rfl) (by kernel_rfl) (fun _ _ _ h => h) (Or.inl ⟨by rfl, ?_⟩) (by assumption) ?_
              · intro wz _; go_simp; try rfl
              try simp only [Act.put, List.getElem_toArray, List.getElem_cons_succ, List.getElem_cons_zero, List.setIfInBounds_toArray, List.set_cons_zero, List.set_cons_succ]
              refine wpStg_pure (i := 20) (v := .pointer (some ⟨w1.heap.size + 1, 0, none⟩)) rfl (by kernel_rfl) (by kernel_rfl) (by kernel_rfl) (by kernel_rfl) (fun _ _ _ h => h) (Or.inl ⟨by rfl, ?_⟩) (by assumption) ?_
              · intro wz _; go_simp; try rfl
              try simp only [Act.put, List.getElem_toArray, List.getElem_cons_succ, List.getElem_cons_zero, List.setIfInBounds_toArray, List.set_cons_zero, List.set_cons_succ]
              refine wpStg_pure (i := 21) (v := .pointer (some ⟨w1.heap.size + 1, 3, none⟩)) rfl (by kernel_rfl) (by kernel_rfl) (by kernel_rfl) (by kernel_rfl) (fun _ _ _ h => h) (Or.inl ⟨by rfl, ?_⟩) (by assumption) ?_
              · intro wz _; go_simp; try rfl
              try simp only [Act.put, List.getElem_toArray, List.getElem_cons_succ, List.getElem_cons_zero, List.setIfInBounds_toArray, List.set_cons_zero, List.set_cons_succ]
              refine wpStg_one (i := 22) (by kernel_rfl) rfl (fun K hK => ?_)
              go_simp
              refine hK.out _ _ ?_ (fun hHeld => ?_)
              · exact .skip (by kernel_rfl) (.keep hd4z .nil)
              clear hK K
              try simp only [Act.put, List.getElem_toArray, List.getElem_cons_succ, List.getElem_cons_zero, List.setIfInBounds_toArray, List.set_cons_zero, List.set_cons_succ]
              refine wpStg_pure (i := 23) (v := .pointer (some ⟨w1.heap.size + 1, 0, none⟩)) rfl (by kernel_rfl) (by kernel_rfl) (by kernel_rfl) (by kernel_rfl) (fun _ _ _ h => h) (Or.inl ⟨by rfl, ?_⟩) (by assumption) ?_
              · intro wz _; go_simp; try rfl
              try simp only [Act.put, List.getElem_toArray, List.getElem_cons_succ, List.getElem_cons_zero, List.setIfInBounds_toArray, List.set_cons_zero, List.set_cons_succ]
              refine wpStg_pure (i := 24) (v := .pointer (some ⟨w1.heap.size + 1, 4, none⟩)) rfl (by kernel_rfl) (by kernel_rfl) (by kernel_rfl) (by kernel_rfl) (fun _ _ _ h => h) (Or.inl ⟨by rfl, ?_⟩) (by assumption) ?_
              · intro wz _; go_simp; try rfl
              try simp only [Act.put, List.getElem_toArray, List.getElem_cons_succ, List.getElem_cons_zero, List.setIfInBounds_toArray, List.set_cons_zero, List.set_cons_succ]
              refine wpStg_one (i := 25) (by kernel_rfl) rfl (fun K hK => ?_)
              go_simp
              refine hK.out _ _ ?_ (fun hHeld => ?_)
              · exact .skip (by kernel_rfl) (.skip (by kernel_rfl) .nil)
              clear hK K
              try simp only [Act.put, List.getElem_toArray, List.getElem_cons_succ, List.getElem_cons_zero, List.setIfInBounds_toArray, List.set_cons_zero, List.set_cons_succ]
              refine wpStg_done (by kernel_rfl) ?_ _
              have FRX := Lib.hid ((((HF.out.trans F8.out).trans HF3.out).trans (Fr.of_cut (w := w10) (xb := w1.heap.size + 1) (p := some ⟨ob2, 0, none⟩) (n := lo2) (c := oc2) (n' := P.length) (u1 := .slice (some ⟨ob2, 0, none⟩) P.length oc2) (u2 := .int .u32 (us : Int)) (i := 3) (j := 4))).trans (Fr.of_below (below_dN (Below.refl _ _) 1)))
              go_wp2_with fail
              go_roundw
              case rel => exact ⟨k + 1, _, by omega, by go_num, HNX, by have := CUT.out; rw [TK.out] at this; exact this, FRX.out⟩
              case measure => simp [intOf]; omega
            | some lf =>
              have HFD := Lib.hid (FOUND.out lf HRES.out.symm)
              go_wp2_with (go_at_call 214; refine (IH.out (P ++ [v]) us2 _ _ I1.out I2.out I4.out (by rw [LO.out]; exact Nat.succ_pos _) I5.out I6.out I3.out O8.out).mono ?_; rintro e w10 ⟨he, us3, ov3, hci2, hu3, hf3⟩; rw [← HRES.out] at he hci2 hu3; change e = Ending.returned (.bool true) at he; subst he; have HC2 := Lib.hid hci2; have HF3 := Lib.hid hf3; clear hci2 hf3 hu3)
              go_ret
              rw [HFD.out]
              exact ⟨rfl, us3, ov3, HC2.out, (fun e => by cases e), (Fr.of_below HB9.out).trans ((HF.out.trans F8.out).trans HF3.out)⟩
      · obtain rfl : k = L.length := by omega
        have HCI := Lib.hid hI
        have HF := Lib.hid hF
        have HFN : Hid (lpF n E (r + 1) P = none) := Lib.hid (lpF_end fun j hj => by
          have e := HL.out
          subst e
          exact HNO.out j hj hj)
        clear hI hF
        go_wp2_with fail
        go_ret
        rw [HFN.out]
        exact ⟨rfl, us, _, HCI.out, fun _ => rfl, (Fr.of_below HB9.out).trans HF.out⟩

end Go.Proofs.YtkppbmfliejnmaaDoor
