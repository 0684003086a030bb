/- Walks: the sets that the program's BestBramble looks at, and the parts without them (printed by wip/mkBb.py). -/
import Derived.Test.YtiooindlpinjhaaDoorBbQ18
import Derived.Test.YtiooindlpinjhaaDoorBbQ21
import Derived.Test.YtiooindlpinjhaaDoorBbQ23
import Derived.Test.YtiooindlpinjhaaDoorBbQ24
import Derived.Test.YtiooindlpinjhaaDoorBbQ12
namespace Go.Proofs.YtiooindlpinjhaaDoor
open Go.RowKit

theorem ty_vsetss : SlTy Tryd.prog 98 66 (.slice none 0 0) 1 24 := ⟨Tryd.underlying98, by kernel_rfl, rfl, by decide, by decide⟩

/-- v is a row of one's own; its rows of sets are read alone. -/
def SV (w : World) (base : Nat) (v : Value) (C : List (List (List Nat))) : Prop :=
  ∃ vals, vals.length = C.length ∧ w.ownsRow base 66 1 v C.length vals ∧ ∀ j, j < C.length → Sl w 71 (vals.getD j undef) (C.getD j []).length ((mskL (C.getD j [])).map u32v)
theorem SV.below {w w' : World} {base : Nat} {v : Value} {C : List (List (List Nat))} (h : SV w base v C) (hb : Below w.heap.size w w') : SV w' base v C := by
  obtain ⟨vals, h1, h2, h3⟩ := h
  exact ⟨vals, h1, ownsRow_below h2 hb, fun j hj => (h3 j hj).below hb⟩

theorem box_offBb {w : World} {b : Nat} {T : TypeId} {x : Value} (h : Box w b T x) {base : Nat} {E : TypeId} {size n : Nat} {v : Value} {xs : List Value} (ho : w.ownsRow base E size v n xs) (hE : E ≠ T) : some b ≠ v.ownBlock := fun e => by
  rcases ho.2 with ⟨rfl, _⟩ | ⟨g, cap, cur', rfl, _, hgg, _⟩
  · simp [Value.ownBlock] at e
  · simp [Value.ownBlock] at e
    subst e
    rw [h.blk] at hgg
    simp only [Option.some.injEq, Obj.cells.injEq] at hgg
    exact hE hgg.2.1.symm

/-- What stands while the sets are looked at. -/
structure VsI (wB w : World) (n : Nat) (E : Nat → Nat → Bool) (cb ab : Nat) (xp : Option Addr) (xc : Nat) (C : List (List (List Nat))) : Prop where
  bel : Below wB.heap.size wB w
  tab : Tab wB
  bc : wB.heap.size ≤ cb
  nac : ab ≠ cb
  boxA : Box w ab 67 (.slice xp n xc)
  ne : NE w (.slice xp n xc) n E
  ch : ∃ v, Box w cb 98 v ∧ SV w wB.heap.size v C
section
variable {wB w w' w6 w8 : World} {n : Nat} {E : Nat → Nat → Bool} {cb ab : Nat} {xp : Option Addr} {xc : Nat} {C : List (List (List Nat))}
theorem VsI.next (h : VsI wB w n E cb ab xp xc C) (hb : Below w.heap.size w w') : VsI wB w' n E cb ab xp xc C where
  bel := h.bel.trans (hb.mono h.bel.size)
  tab := h.tab
  bc := h.bc
  nac := h.nac
  boxA := h.boxA.keep hb
  ne := h.ne.next hb
  ch := by
    obtain ⟨v, h1, h2⟩ := h.ch
    exact ⟨v, h1.keep hb, h2.below hb⟩
theorem VsI.push (h : VsI wB w n E cb ab xp xc C) (hb : Below w.heap.size w w6) {cv u' rv : Value} {vals : List Value} (hbx : Box w cb 98 cv) (hl : vals.length = C.length)
    (ho : w.ownsRow wB.heap.size 66 1 cv C.length vals) (hr : ∀ j, j < C.length → Sl w 71 (vals.getD j undef) (C.getD j []).length ((mskL (C.getD j [])).map u32v)) {ps : List (List Nat)}
    (hrv : Sl w6 71 rv ps.length ((mskL ps).map u32v)) (ho' : w8.ownsRow wB.heap.size 66 1 u' (C.length + 1) (vals ++ [rv])) (hg : w6.grownBy w8 cv.ownBlock) :
    VsI wB (w8.setCell ⟨cb, 0, none⟩ u') n E cb ab xp xc (C ++ [ps]) := by
  have ho6 := ownsRow_below ho hb
  have hb6 := hbx.keep hb
  have ha6 := h.boxA.keep hb
  have hs6 : wB.heap.size ≤ w6.heap.size := Nat.le_trans h.bel.size hb.size
  have nc := box_offBb hb6 ho6 (by decide)
  have na := box_offBb ha6 ho6 (by decide)
  have hb8 := hb6.grown hg nc
  have ha8 := ha6.grown hg na
  have BEL : Below wB.heap.size wB w8 := below_grown (h.bel.trans (hb.mono h.bel.size)) ho6 hg (Nat.le_refl _) hs6
  refine ⟨BEL.setCell h.bc u', h.tab, h.bc, h.nac, ha8.setOther h.nac u', ⟨h.ne.le, ((h.ne.sl.below hb).other ho6 hg (by decide)).setBox hb8 (by decide) u'⟩, u', hb8.set u', vals ++ [rv], by simp [hl], ?_, fun j hj => ?_⟩
  · rw [List.length_append, List.length_singleton]
    exact ownsRow_setBox ho' hb8 (by decide) u'
  · rw [List.length_append, List.length_singleton] at hj
    by_cases e : j < C.length
    · rw [getD_append_left _ _ _ _ (by omega), getD_append_left _ _ _ _ (by omega)]
      exact (((hr j e).below hb).other ho6 hg (by decide)).setBox hb8 (by decide) u'
    · obtain rfl : j = C.length := by omega
      rw [← hl, getD_append_last, hl, getD_append_last]
      exact (hrv.other ho6 hg (by decide)).setBox hb8 (by decide) u'
end

/-- The parts without a list. -/
noncomputable def prtO (n : Nat) (E : Nat → Nat → Bool) (o : List Nat) : List (List Nat) := prtK E (restO n o)
theorem leftK_restO {n : Nat} {o : List Nat} (hn : n ≤ 16) (ho : o.Pairwise (· < ·)) (hin : ∀ x ∈ o, x < n) (hs : mask (natInts o) < 2 ^ n) : leftK n (mask (natInts o)) = restO n o := by
  refine rising_ext _ _ (bitsOf_rising _) (restO_rising _ _) fun x => ?_
  rw [mem_leftK hn hs, mem_restO, List.mem_range, bitsOf_maskN ho fun x hx => by have := hin x hx; omega]

set_option maxRecDepth 100000 in
set_option maxHeartbeats 4000000 in
theorem visit_any (y : Int) (o : List Nat) (hy : y = mask (natInts o)) (n : Nat) (E : Nat → Nat → Bool) (cb ab : Nat) (xp : Option Addr) (xc : Nat) (C : List (List (List Nat))) (ho : o.Pairwise (· < ·)) (hin : ∀ x ∈ o, x < n) (hs : mask (natInts o) < 2 ^ n) (hC : C.length < 1000000) (wB w : World) (h : VsI wB w n E cb ab xp xc C) :
    Calls Tryd.prog 92 #[.int .u32 y, .pointer (some ⟨cb, 0, none⟩), .pointer (some ⟨ab, 0, none⟩)] w fun e w' => e = .returned (.bool false) ∧ VsI wB w' n E cb ab xp xc (C ++ [prtO n E o]) := by
  subst hy
  have n16 := h.ne.le
  obtain ⟨s, hse⟩ : ∃ s, s = mask (natInts o) := ⟨_, rfl⟩
  have hlk := leftK_restO n16 ho hin hs
  rw [← hse] at hs hlk ⊢
  have hs16 := (cand_bits n16 hs).2
  obtain ⟨M, hM⟩ : ∃ M, M = 2 ^ n - 1 := ⟨_, rfl⟩
  have hp : 2 ^ n ≤ 2 ^ 16 := Nat.pow_le_pow_right (by decide) n16
  have hM16 : M < 65536 := by omega
  obtain ⟨t, ht⟩ : ∃ t, t = Go.Proofs.YtiooindlpinjhaaDoor.sub M s := ⟨_, rfl⟩
  obtain ⟨q1, q2, q3⟩ := left_lt n16 hs hM ht
  rw [hlk] at q2
  have hand : bits BinOp.andNot IntKind.u32 (M : Int) (s : Int) = (t : Int) := by rw [ht]; exact u32_andNot_nat M s (by omega) (by omega)
  have ALL : Hid (∀ (wz : World), Calls Tryd.prog 56 #[.slice xp n xc] wz fun e w' => e = .returned (.int .u32 (M : Int)) ∧ wz = w') := Lib.hid fun wz => all_any' xp n xc M (by omega) hM wz
  have PARTS : Hid (∀ wz, Below w.heap.size w wz → Calls Tryd.prog 93 #[.slice xp n xc, .int .u32 (t : Int)] wz fun e w' => ∃ (op : Option Addr) (k oc : Nat), e = .returned (.slice op k oc) ∧ Sl w' 71 (.slice op k oc) (prtO n E o).length ((mskL (prtO n E o)).map u32v) ∧ Below wz.heap.size wz w') := Lib.hid fun wz hb => by
    refine (partsOf_any (.slice xp n xc) (t : Int) n E t rfl q1 q3 wz (h.ne.next hb) ((h.tab.keep h.bel).keep hb)).mono ?_
    rintro e w' ⟨ov, ps, rfl, hps, ho, hl, _, _, hb'⟩
    rw [q2] at hps
    have e := prtK_eq hps
    subst e
    obtain ⟨op, oc, rfl⟩ := owns_shapeBa ho
    exact ⟨op, _, oc, rfl, Sl.of_owns ho (by unfold prtO; omega), hb'⟩
  obtain ⟨cv, hbx, vals, hvl, hown, hrw⟩ := h.ch
  have hlenC : C.length < 1000000 := hC
  obtain ⟨cp, cc, rfl⟩ := owns_shapeBa hown
  have HI := Lib.hid h
  have HBX := Lib.hid hbx
  have HVL := Lib.hid hvl
  have HOW := Lib.hid hown
  have HRW := Lib.hid hrw
  have ca := h.boxA.cell
  have cc0 := hbx.cell
  clear h hbx hvl hown hrw hM ht hp hlk hse ho hin q2 q3 hs
  go_enter Tryd.func92, Tryd.ntmps92
  go_upto_region 2 with fail
  refine wp_region_stg [(9, fun w' => w'.cell? ⟨cb, 0, none⟩ = some (.slice cp C.length cc)), (9, fun w' => w'.cell? ⟨ab, 0, none⟩ = some (.slice xp n xc))] (by kernel_rfl) ?_ (fun hHeld => ?_)
  · exact .keep cc0 (.keep ca .nil)
  refine wpStg_take (m := 0) (i := 0) (v := .slice cp C.length cc) rfl rfl (by kernel_rfl) (by kernel_rfl) (by kernel_rfl) (by kernel_rfl) (by kernel_rfl) (by kernel_rfl) (fun _ _ _ h => h) (Or.inl ⟨by rfl, ?_⟩) (by assumption) ?_
  · intro wz hSw; (try dsimp only at hSw); go_simp; try rfl
  try simp only [Act.put, List.getElem_toArray, List.getElem_cons_succ, List.getElem_cons_zero, List.setIfInBounds_toArray, List.set_cons_zero, List.set_cons_succ]
  refine wpStg_take (m := 1) (i := 1) (v := .slice xp n xc) rfl rfl (by kernel_rfl) (by kernel_rfl) (by kernel_rfl) (by kernel_rfl) (by kernel_rfl) (by kernel_rfl) (fun _ _ _ h => h) (Or.inl ⟨by rfl, ?_⟩) (by assumption) ?_
  · intro wz hSw; (try dsimp only at hSw); go_simp; try rfl
  try simp only [Act.put, List.getElem_toArray, List.getElem_cons_succ, List.getElem_cons_zero, List.setIfInBounds_toArray, List.set_cons_zero, List.set_cons_succ]
  refine wpStg_take (m := 1) (i := 2) (v := .slice xp n xc) rfl rfl (by kernel_rfl) (by kernel_rfl) (by kernel_rfl) (by kernel_rfl) (by kernel_rfl) (by kernel_rfl) (fun _ _ _ h => h) (Or.inl ⟨by rfl, ?_⟩) (by assumption) ?_
  · intro wz hSw; (try dsimp only at hSw); go_simp; try rfl
  try simp only [Act.put, List.getElem_toArray, List.getElem_cons_succ, List.getElem_cons_zero, List.setIfInBounds_toArray, List.set_cons_zero, List.set_cons_succ]
  refine wpStg_pure (i := 4) (v := .int .u32 (s : Int)) rfl (by kernel_rfl) (by kernel_rfl) (by kernel_rfl) (by kernel_rfl) (fun _ _ _ h => h) (Or.inl ⟨by rfl, ?_⟩) (by assumption) ?_
  · intro wz _; go_simp; try rfl
  try simp only [Act.put, List.getElem_toArray, List.getElem_cons_succ, List.getElem_cons_zero, List.setIfInBounds_toArray, List.set_cons_zero, List.set_cons_succ]
  refine wpStg_one (i := 3) (by kernel_rfl) rfl (fun K hK => ?_)
  go_simp
  go_at_call 56
  refine (ALL.out _).mono ?_
  rintro e wz ⟨rfl, hw⟩
  subst hw
  refine hK.out _ _ ?_ (fun hHeld => ?_)
  · exact .keep cc0 (.keep ca .nil)
  clear hK K
  try simp only [Act.put, List.getElem_toArray, List.getElem_cons_succ, List.getElem_cons_zero, List.setIfInBounds_toArray, List.set_cons_zero, List.set_cons_succ]
  refine wpStg_pure (i := 5) (v := .int .u32 (t : Int)) rfl (by kernel_rfl) (by kernel_rfl) (by kernel_rfl) (by kernel_rfl) (fun _ _ _ h => h) (Or.inl ⟨by rfl, ?_⟩) (by assumption) ?_
  · intro wz _; go_simp; try rfl
  try simp only [Act.put, List.getElem_toArray, List.getElem_cons_succ, List.getElem_cons_zero, List.setIfInBounds_toArray, List.set_cons_zero, List.set_cons_succ]
  refine wpStg_one (i := 6) (by kernel_rfl) rfl (fun K hK => ?_)
  go_simp
  go_at_call 93
  refine (PARTS.out _ (below_dN (Below.refl _ _) _)).mono ?_
  rintro e w6 ⟨op, ok, oc, rfl, hsl6, hb6⟩
  have B6 : Below w.heap.size w w6 := (below_dN (Below.refl _ _) _).trans hb6
  have c60 := B6.at' cc0
  have c6a := B6.at' ca
  have HSL := Lib.hid hsl6
  clear hsl6 hb6
  refine hK.out _ _ ?_ (fun hHeld => ?_)
  · exact .keep c60 (.keep c6a .nil)
  clear hK K
  try simp only [Act.put, List.getElem_toArray, List.getElem_cons_succ, List.getElem_cons_zero, List.setIfInBounds_toArray, List.set_cons_zero, List.set_cons_succ]
  refine wpStg_one (i := 7) (by kernel_rfl) rfl (fun K hK => ?_)
  go_simp
  refine hK.out _ _ ?_ (fun hHeld => ?_)
  · exact .keep ((below_alloc _ _).at' c60) (.keep ((below_alloc _ _).at' c6a) .nil)
  clear hK K
  try simp only [Act.put, List.getElem_toArray, List.getElem_cons_succ, List.getElem_cons_zero, List.setIfInBounds_toArray, List.set_cons_zero, List.set_cons_succ]
  refine wpStg_one (i := 8) (by kernel_rfl) rfl (fun K hK => ?_)
  refine step_app1f ty_vsetss (w := w6) (s := .tmp 5) (x := .tmp 12) (v := .slice cp C.length cc) (n := C.length) (xs := vals) (base := wB.heap.size) (el := .slice op ok oc) rfl rfl rfl (ownsRow_below HOW.out B6) rfl rfl (by omega) (Nat.le_trans HI.out.bel.size B6.size) ?_
  intro b8 c8 w8 hown8 hg8 _
  have nc8 := (HBX.out.keep B6).grown hg8 (box_offBb (HBX.out.keep B6) (ownsRow_below HOW.out B6) (by decide))
  have na8 := (HI.out.boxA.keep B6).grown hg8 (box_offBb (HI.out.boxA.keep B6) (ownsRow_below HOW.out B6) (by decide))
  have c80 := nc8.cell
  have c8a := na8.cell
  have f80 := nc8.free
  have HNEW := Lib.hid (HI.out.push B6 HBX.out HVL.out HOW.out HRW.out HSL.out hown8 hg8)
  clear nc8 na8 hown8 hg8
  refine hK.out _ _ ?_ (fun hHeld => ?_)
  · exact .keep c80 (.keep c8a .nil)
  clear hK K
  try simp only [Act.put, List.getElem_toArray, List.getElem_cons_succ, List.getElem_cons_zero, List.setIfInBounds_toArray, List.set_cons_zero, List.set_cons_succ]
  refine wpStg_one (i := 9) (by kernel_rfl) rfl (fun K hK => ?_)
  go_simp
  refine hK.out _ _ ?_ (fun hHeld => ?_)
  · exact .skip (by kernel_rfl) (.skip (by kernel_rfl) .nil)
  clear hK K
  try simp only [Act.put, List.getElem_toArray, List.getElem_cons_succ, List.getElem_cons_zero, List.setIfInBounds_toArray, List.set_cons_zero, List.set_cons_succ]
  refine wpStg_done (by kernel_rfl) ?_ _
  go_wp2
  go_ret
  exact ⟨rfl, HNEW.out⟩

theorem visT_le {n m : Nat} {o : List Nat} {v v' : Nat} (h : v ≤ v') : (visT n m o v).length ≤ (visT n m o v').length := by
  induction v' with
  | zero => obtain rfl : v = 0 := by omega
            exact Nat.le_refl _
  | succ k ih =>
    by_cases e : v = k + 1
    · rw [e]; exact Nat.le_refl _
    have h1 := ih (by omega)
    by_cases hl : lastp o ≤ k
    · rw [visT_step n m o hl, List.length_append]; omega
    · rw [visT_start n m o (v := k + 1) (by omega)]
      rw [visT_start n m o (v := k) (by omega)] at h1
      exact h1
theorem visT_all (n m : Nat) (o : List Nat) : visT n m o n = visO n (m + 1) o := (visO_succ n m o).symm

set_option maxRecDepth 100000 in
set_option maxHeartbeats 4000000 in
theorem chooseSets_vis (n : Nat) (E : Nat → Nat → Bool) (cb ab : Nat) (xp : Option Addr) (xc : Nat) (wB : World) : ∀ (many : Nat) (o : List Nat) (C : List (List (List Nat))) (yl ym yc : Int), yl = lastp o → ym = many → yc = mask (natInts o) → many ≤ n → lastp o ≤ n → o.Pairwise (· < ·) → (∀ x ∈ o, x < n) → mask (natInts o) < 2 ^ n → C.length + (visO n many o).length ≤ 1000000 → ∀ (w : World), VsI wB w n E cb ab xp xc C →
    Calls Tryd.prog 89 #[.int .i64 n, .int .i64 yl, .int .i64 ym, .int .u32 yc, .func (.func 92) #[] #[.pointer (some ⟨cb, 0, none⟩), .pointer (some ⟨ab, 0, none⟩)]] w fun e w' => e = .returned (.bool false) ∧ VsI wB w' n E cb ab xp xc (C ++ (visO n many o).map (prtO n E)) := by
  intro many
  induction many with
  | zero =>
    rintro o C yl ym yc rfl rfl rfl _ _ ho hin hs hC w h
    have HI := Lib.hid h
    have HO := Lib.hid ho
    have HIN := Lib.hid hin
    have HS := Lib.hid hs
    have n16 := h.ne.le
    have HC : Hid (C.length < 1000000) := Lib.hid (by rw [visO_zero, List.length_singleton] at hC; omega)
    obtain ⟨s, hse⟩ : ∃ s, s = mask (natInts o) := ⟨_, rfl⟩
    have HSE := Lib.hid hse
    rw [← hse]
    obtain ⟨lp, hlp⟩ : ∃ l, l = lastp o := ⟨_, rfl⟩
    rw [← hlp]
    have VIS : Hid (Calls Tryd.prog 92 #[.int .u32 (s : Int), .pointer (some ⟨cb, 0, none⟩), .pointer (some ⟨ab, 0, none⟩)] w fun e w' => e = .returned (.bool false) ∧ VsI wB w' n E cb ab xp xc (C ++ (visO n 0 o).map (prtO n E))) := Lib.hid (visit_any _ o (by rw [HSE.out]) n E cb ab xp xc C HO.out HIN.out HS.out HC.out wB w HI.out)
    have VIS2 : Hid (∀ wz, Below w.heap.size w wz → Calls Tryd.prog 92 #[.int .u32 (s : Int), .pointer (some ⟨cb, 0, none⟩), .pointer (some ⟨ab, 0, none⟩)] wz fun e w' => e = .returned (.bool false) ∧ VsI wB w' n E cb ab xp xc (C ++ (visO n 0 o).map (prtO n E))) := Lib.hid (fun wz hb => visit_any _ o (by rw [HSE.out]) n E cb ab xp xc C HO.out HIN.out HS.out HC.out wB wz (HI.out.next hb))
    clear VIS ho hin hs hC h hse hlp
    go_enter Tryd.func89, Tryd.ntmps89
    go_wp2_with (go_at_call 92; refine (VIS2.out _ (by first | exact Below.refl _ _ | exact below_dN (Below.refl _ _) _)).mono ?_; rintro e w3 ⟨rfl, hI3⟩; have HI3 := Lib.hid hI3; clear hI3)
    go_ret
    exact ⟨rfl, HI3.out⟩
  | succ many ih =>
    rintro o C yl ym yc rfl hym rfl hmn hln ho hin hs hC w h
    obtain ⟨m, hm⟩ : ∃ m : Nat, m = many + 1 := ⟨_, rfl⟩
    obtain rfl : ym = (m : Int) := by omega
    have hm1 : m ≤ many + 1 := by omega
    have hm2 : many + 1 ≤ m := by omega
    have hm0 : ((m : Int) == 0) = false := by simp; omega
    clear hym hm
    have n16 := h.ne.le
    have IH := Lib.hid ih
    have HI := Lib.hid h
    have HO := Lib.hid ho
    have HIN := Lib.hid hin
    have HS := Lib.hid hs
    have HC := Lib.hid hC
    obtain ⟨s, hse⟩ : ∃ s, s = mask (natInts o) := ⟨_, rfl⟩
    have HSE := Lib.hid hse
    have hs16 : s < 65536 := by rw [hse]; exact (cand_bits n16 hs).2
    rw [← hse]
    obtain ⟨lp, hlp⟩ : ∃ l, l = lastp o := ⟨_, rfl⟩
    have HLP := Lib.hid hlp
    rw [← hlp] at hln ⊢
    clear h ho hin hs hC hse hlp ih
    go_enter Tryd.func89, Tryd.ntmps89
    go_wp2
    go_loopw [11] (fun i wr => ∃ (v : Nat), lp ≤ v ∧ v ≤ n ∧ i = .int .i64 v ∧ VsI wB wr n E cb ab xp xc (C ++ (visT n many o v).map (prtO n E))) (fun i _ => n - (intOf i).toNat)
    case atStart => exact ⟨lp, Nat.le_refl _, hln, rfl, by rw [visT_start n many o (by rw [HLP.out]; exact Nat.le_refl _), List.map_nil, List.append_nil]; exact HI.out.next (by first | exact Below.refl _ _ | exact below_dN (Below.refl _ _) _)⟩
    case round =>
      clear HI
      obtain ⟨v, hlo, hvn, rfl, hW⟩ := hrel
      have HW := Lib.hid hW
      clear hW
      have hwr : wrap64 ((v : Int) + (m : Int)) = (v : Int) + (m : Int) := by unfold wrap64; omega
      have hwr1 : wrap64 ((v : Int) + 1) = (v : Int) + 1 := by unfold wrap64; omega
      by_cases hle : v + (many + 1) ≤ n
      · have hli : (v : Int) + (m : Int) ≤ (n : Int) := by omega
        obtain ⟨pv, hpv⟩ : ∃ pv, pv = 2 ^ v := ⟨_, rfl⟩
        have hp16 : pv < 65536 := by rw [hpv]; exact pow_lt16 v (by omega)
        have ONE : Hid (∀ w, Calls Tryd.prog 70 #[.int .i64 (v : Int)] w fun e w' => e = .returned (.int .u32 (pv : Int)) ∧ w = w') := Lib.hid (by rw [hpv]; exact fun w => one_any (v : Int) v rfl (by omega) w)
        obtain ⟨t, ht⟩ : ∃ t, t = s ||| pv := ⟨_, rfl⟩
        have hor : bits BinOp.or IntKind.u32 (s : Int) (pv : Int) = (t : Int) := by rw [ht]; exact or_u32 s pv hs16 hp16
        have HTM : Hid (t = mask (natInts (o ++ [v]))) := Lib.hid (by rw [ht, HSE.out, hpv, mask_app])
        have HLT : Hid (mask (natInts (o ++ [v])) < 2 ^ n) := Lib.hid (by
          rw [← HTM.out, ht, hpv, HSE.out]
          exact Nat.or_lt_two_pow HS.out (Nat.pow_lt_pow_right (by decide) (by omega)))
        have REC : Hid (∀ wz, VsI wB wz n E cb ab xp xc (C ++ (visT n many o v).map (prtO n E)) → Calls Tryd.prog 89 #[.int .i64 n, .int .i64 ((v : Int) + 1), .int .i64 (((m : Int) - 1 : Int)), .int .u32 (t : Int), .func (.func 92) #[] #[.pointer (some ⟨cb, 0, none⟩), .pointer (some ⟨ab, 0, none⟩)]] wz fun e w' => e = .returned (.bool false) ∧ VsI wB w' n E cb ab xp xc (C ++ (visT n many o (v + 1)).map (prtO n E))) := Lib.hid fun wz hz => by
          have hlp2 : lastp o ≤ v := by rw [← HLP.out]; exact hlo
          have hst := visT_step n many o hlp2
          have hbd : (C ++ (visT n many o v).map (prtO n E)).length + (visO n many (o ++ [v])).length ≤ 1000000 := by
            have h1 := visT_le (n := n) (m := many) (o := o) (show v + 1 ≤ n by omega)
            rw [visT_all, hst, List.length_append] at h1
            have h2 := HC.out
            rw [List.length_append, List.length_map]
            omega
          have := IH.out (o ++ [v]) (C ++ (visT n many o v).map (prtO n E)) ((v : Int) + 1) ((m : Int) - 1) (t : Int) (by rw [lastp_snoc]; omega) (by omega) (by rw [HTM.out]) (by omega) (by rw [lastp_snoc]; omega)
            (List.pairwise_append.2 ⟨HO.out, by simp, fun a ha b hb => by rw [List.mem_singleton] at hb; subst hb; exact (lastp_le HO.out).2 hlp2 a ha⟩)
            (fun x hx => by
              rcases List.mem_append.1 hx with h | h
              · exact HIN.out x h
              · rw [List.mem_singleton] at h; omega) HLT.out hbd wz hz
          rw [hst, List.map_append, ← List.append_assoc]
          exact this
        have hwm : wrap64 ((m : Int) - 1) = (m : Int) - 1 := by unfold wrap64; omega
        clear hpv ht
        go_wp2_with (first
          | (go_at_call 89; refine (REC.out _ (HW.out.next (by first | exact Below.refl _ _ | exact below_dN (Below.refl _ _) _))).mono ?_; rintro e w3 ⟨rfl, hI3⟩; have HI3 := Lib.hid hI3; clear hI3)
          | (go_at_call 70; refine (ONE.out _).mono ?_; rintro e w2 ⟨rfl, rfl⟩))
        go_roundw
        case rel => exact ⟨v + 1, by omega, by omega, by go_num, HI3.out⟩
        case measure => simp [intOf]; omega
      · have hli : ¬ (v : Int) + (m : Int) ≤ (n : Int) := by omega
        have HEND : Hid (visT n many o v = visO n (many + 1) o) := Lib.hid (visT_end (by omega) hvn (by rw [← HLP.out]; exact hlo))
        go_wp2
        go_ret
        exact ⟨rfl, by rw [← HEND.out]; exact HW.out.next (by first | exact Below.refl _ _ | exact below_dN (Below.refl _ _) _)⟩

end Go.Proofs.YtiooindlpinjhaaDoor

/- Walks: the program's test whether sets touch, and whether they are a bramble. -/
namespace Go.Proofs.YtiooindlpinjhaaDoor
open Go.RowKit

def TouchM (E : Nat → Nat → Bool) (a b : Nat) : Prop := (∃ i, a.testBit i = true ∧ b.testBit i = true) ∨ ∃ v u, a.testBit v = true ∧ b.testBit u = true ∧ E v u = true
theorem and_zero_iff {a b : Nat} : a &&& b = 0 ↔ ∀ i, ¬ (a.testBit i = true ∧ b.testBit i = true) := by
  constructor
  · intro h i ⟨h1, h2⟩
    have := congrArg (fun x => x.testBit i) h
    simp [h1, h2] at this
  · intro h
    refine Nat.eq_of_testBit_eq fun i => ?_
    rw [Nat.testBit_and, Nat.zero_testBit, Bool.eq_false_iff]
    intro k
    rw [Bool.and_eq_true] at k
    exact h i k

set_option maxRecDepth 100000 in
set_option maxHeartbeats 2000000 in
theorem touches_any (x : Value) (y z : Int) (n : Nat) (E : Nat → Nat → Bool) (a b : Nat) (hy : y = a) (hz : z = b) (ha : a < 65536) (hb : b < 65536) (han : ∀ i, a.testBit i = true → i < n) (hbn : ∀ i, b.testBit i = true → i < n) (w : World) (hx : NE w x n E) (hT : Tab w) :
    Calls Tryd.prog 141 #[x, .int .u32 y, .int .u32 z] w fun e w' => e = .returned (.bool (dec (TouchM E a b))) ∧ Below w.heap.size w w' := by
  subst hy; subst hz
  obtain ⟨xp, xc, rfl⟩ : ∃ p c, x = .slice p n c := by obtain ⟨p, c, e, _⟩ := hx.sl; exact ⟨p, c, e⟩
  have HX := Lib.hid hx
  have HT := Lib.hid hT
  have HBN := Lib.hid hbn
  have hand := u32_and_nat a b (by omega) (by omega)
  by_cases h0 : a &&& b = 0
  · have h0' : (((a &&& b : Nat) : Int) != 0) = false := by rw [h0]; rfl
    have H0 := Lib.hid (and_zero_iff.1 h0)
    clear hx hT h0
    have hlen : (bitsOf a).length ≤ 32 := bitsOf_length a
    have HL : Hid (∀ k (h : k < (bitsOf a).length), (bitsOf a)[k] < n ∧ a.testBit (bitsOf a)[k] = true) := Lib.hid (fun k h => by
      have h1 := (mem_left ha).1 (List.getElem_mem h)
      exact ⟨han _ h1, h1⟩)
    have HALL : Hid (∀ v, a.testBit v = true → ∃ k, ∃ h : k < (bitsOf a).length, (bitsOf a)[k] = v) := Lib.hid (fun v hv => List.getElem_of_mem ((mem_left ha).2 hv))
    clear han hbn
    generalize (a &&& b : Nat) = ab at hand h0' H0
    go_enter Tryd.func141, Tryd.ntmps141
    go_wp2_with (go_at_call 127; refine (list_any _ a rfl (by omega) _ HT.out).mono ?_; rintro e w3 ⟨lv, rfl, ho3, hb3⟩; obtain ⟨lp, lc, rfl⟩ : ∃ p c, lv = Value.slice p (bitsOf a).length c := (by rcases ho3.2 with ⟨h1, h2⟩ | ⟨q, cap, cur, h1, _⟩; exact ⟨none, 0, (by rw [h1, h2])⟩; exact ⟨_, _, h1⟩); have HN3 := Lib.hid (numsInt_of _ _ _ _ ho3 (by omega)); have HX3 := Lib.hid (HX.out.next hb3); have HB3 := Lib.hid hb3; clear ho3 hb3)
    go_loopw [16] (fun i wr => ∃ k : Nat, k ≤ (bitsOf a).length ∧ i = .int .i64 k ∧ (∀ j (h : j < (bitsOf a).length), j < k → ∀ u, b.testBit u = true → ¬ E (bitsOf a)[j] u = true) ∧ Below w3.heap.size w3 wr) (fun i _ => (bitsOf a).length - (intOf i).toNat)
    case atStart => exact ⟨0, Nat.zero_le _, rfl, fun j _ hj => absurd hj (Nat.not_lt_zero _), Below.refl _ _⟩
    case round =>
      obtain ⟨k, hk, rfl, hno, hb⟩ := hrel
      have HNO := Lib.hid hno
      have HB := Lib.hid hb
      clear hno
      by_cases hlt : k < (bitsOf a).length
      · obtain ⟨qb, qo, rfl, hq⟩ := (HN3.out.below hb).get (k := k) (by rw [natInts_length]; exact hlt)
        obtain ⟨v, hv⟩ : ∃ v, v = (bitsOf a)[k] := ⟨_, rfl⟩
        have e1 : (natInts (bitsOf a))[k]'(by rw [natInts_length]; exact hlt) = (v : Int) := by simp [natInts, hv]
        rw [e1] at hq
        obtain ⟨hvn, hva⟩ := HL.out k hlt
        rw [← hv] at hvn hva
        obtain ⟨nb, no, av, rfl, hca, ha16, hbit⟩ := (HX3.out.next hb).get hvn
        have hand2 := u32_and_nat av b (by omega) (by omega)
        have HV := Lib.hid hv
        have HBIT := Lib.hid hbit
        have HVA := Lib.hid hva
        clear e1 hb hv hbit hva
        by_cases h1 : av &&& b = 0
        · have h1' : (((av &&& b : Nat) : Int) != 0) = false := by rw [h1]; rfl
          have H1 := Lib.hid (and_zero_iff.1 h1)
          clear h1
          generalize (av &&& b : Nat) = avb at hand2 h1'
          go_wp2_with fail
          go_roundw
          case rel => exact ⟨k + 1, by omega, by go_num, fun j h hj u hu hE => by
            by_cases e : j < k
            · exact HNO.out j h e u hu hE
            · obtain rfl : j = k := by omega
              refine H1.out u ⟨?_, hu⟩
              rw [HBIT.out u, HV.out, hE]
              simp [HBN.out u hu], HB.out⟩
          case measure => simp [intOf]; omega
        · have h1' : (((av &&& b : Nat) : Int) != 0) = true := by simp; omega
          have HY : Hid (TouchM E a b) := Lib.hid (by
            have := mt and_zero_iff.2 h1
            obtain ⟨u, hu⟩ := Classical.not_forall.1 this
            obtain ⟨hu1, hu2⟩ := Classical.not_not.1 hu
            rw [HBIT.out u, Bool.and_eq_true] at hu1
            exact .inr ⟨v, u, HVA.out, hu2, hu1.2⟩)
          clear h1
          generalize (av &&& b : Nat) = avb at hand2 h1'
          go_wp2_with fail
          go_ret
          exact ⟨by rw [dec_true HY.out]; rfl, HB3.out.trans (HB.out.mono HB3.out.size)⟩
      · obtain rfl : k = (bitsOf a).length := by omega
        have HNY : Hid (¬ TouchM E a b) := Lib.hid (fun h => by
          rcases h with ⟨i, h1⟩ | ⟨v, u, h1, h2, h3⟩
          · exact H0.out i h1
          · obtain ⟨j, hj, e⟩ := HALL.out v h1
            exact HNO.out j hj hj u h2 (by rw [e]; exact h3))
        clear hb
        go_wp2_with fail
        go_ret
        exact ⟨by rw [dec_false HNY.out]; rfl, HB3.out.trans (HB.out.mono HB3.out.size)⟩
  · have h0' : (((a &&& b : Nat) : Int) != 0) = true := by simp; omega
    have HY : Hid (TouchM E a b) := Lib.hid (by
      have := mt and_zero_iff.2 h0
      obtain ⟨u, hu⟩ := Classical.not_forall.1 this
      exact .inl ⟨u, Classical.not_not.1 hu⟩)
    clear hx hT h0 han hbn
    generalize (a &&& b : Nat) = ab at hand h0'
    go_enter Tryd.func141, Tryd.ntmps141
    go_wp2
    go_ret
    exact ⟨by rw [dec_true HY.out]; rfl, Below.refl _ _⟩

theorem touch_mask {g : List (List Int)} (hg : GOk g) {A B : List Int} (hA : SetIn g.length A) (hB : SetIn g.length B) : TouchM (ofG g) (mask B) (mask A) ↔ TouchP g A B := by
  have key : ∀ (C : List Int), SetIn g.length C → ∀ i : Nat, (mask C).testBit i = true ↔ (i : Int) ∈ C := fun C hC i => by
    rw [testBit_mask, List.any_eq_true]
    constructor
    · rintro ⟨x, hx, e⟩
      have h1 := (hC.1 x hx).1
      have h2 : x.toNat = i := by simpa using e
      have : (i : Int) = x := by omega
      rw [this]; exact hx
    · intro h
      exact ⟨_, h, by simp⟩
  unfold TouchM TouchP
  constructor
  · rintro (⟨i, h1, h2⟩ | ⟨v, u, h1, h2, h3⟩)
    · exact ⟨i, (key A hA i).1 h2, .inl ((key B hB i).1 h1)⟩
    · unfold ofG at h3
      exact ⟨u, (key A hA u).1 h2, .inr ⟨v, (key B hB v).1 h1, by simpa using h3⟩⟩
  · rintro ⟨x, hx, h⟩
    have hx0 := (hA.1 x hx).1
    obtain ⟨i, rfl⟩ : ∃ i : Nat, x = (i : Int) := ⟨x.toNat, by omega⟩
    rcases h with h | ⟨y, hy, h⟩
    · exact .inl ⟨i, (key B hB i).2 h, (key A hA i).2 hx⟩
    · have hy0 := (hB.1 y hy).1
      obtain ⟨j, rfl⟩ : ∃ j : Nat, y = (j : Int) := ⟨y.toNat, by omega⟩
      exact .inr ⟨j, i, (key B hB j).2 hy, (key A hA i).2 hx, by unfold ofG; simpa using h⟩


end Go.Proofs.YtiooindlpinjhaaDoor
