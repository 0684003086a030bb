/- Walk: the program's parts of a set. -/
import Derived.Test.YtjdlmjmhlbpooaaDoorEgQ24
import Derived.Test.YtjdlmjmhlbpooaaDoorEgQ21
namespace Go.Proofs.YtjdlmjmhlbpooaaDoor
open Go.RowKit

theorem ty_vsets : SlTy Tryd.prog 62 69 (.int .u32 0) 1 4 := ⟨Tryd.underlying62, by kernel_rfl, rfl, by decide, by decide⟩

theorem Tab.grownP {w w' : World} {r : Option Nat} (h : Tab w) (hg : w.grownBy w' r) (hr : some 0 ≠ r) : Tab w' := fun j hj => hg.cell (a := ⟨_, j, none⟩) (h j hj) hr

/-- Lists, as masks. -/
def mskL (ps : List (List Nat)) : List Nat := ps.map fun l => mask (natInts l)
theorem mskL_snoc (ps : List (List Nat)) (l : List Nat) : mskL (ps ++ [l]) = mskL ps ++ [mask (natInts l)] := by simp [mskL]
theorem mskL_length (ps : List (List Nat)) : (mskL ps).length = ps.length := by simp [mskL]

structure PtI (w wr : World) (x ov : Value) (n : Nat) (E : Nat → Nat → Bool) (W s : Nat) (os : List (List Nat)) : Prop where
  s16 : s < 65536
  sub : ∀ i, s.testBit i = true → i < n
  net : NE wr x n E
  own : wr.ownsRow w.heap.size 69 1 ov os.length ((mskL os).map u32v)
  bel : Below w.heap.size w wr
  on : PartOn E (bitsOf W) os (bitsOf s)
  cnt : os.length + (bitsOf s).length ≤ 32
  lt : ∀ l ∈ os, l.Pairwise (· < ·) ∧ ∀ i ∈ l, i < n
  tab : Tab wr
  tpos : 0 < w.heap.size

set_option maxRecDepth 100000 in
set_option maxHeartbeats 4000000 in
theorem partsOf_any (x : Value) (y : Int) (n : Nat) (E : Nat → Nat → Bool) (W : Nat) (hy : y = W) (hW : W < 65536) (hWn : ∀ i, W.testBit i = true → i < n) (w : World) (hx : NE w x n E) (hT : Tab w) :
    Calls Tryd.prog 83 #[x, .int .u32 y] w fun e w' => ∃ (ov : Value) (ps : List (List Nat)), e = .returned ov ∧ Parts E (bitsOf W) ps ∧
      w'.ownsRow w.heap.size 69 1 ov ps.length ((mskL ps).map u32v) ∧ ps.length ≤ 32 ∧ (∀ l ∈ ps, l.Pairwise (· < ·) ∧ ∀ i ∈ l, i < n) ∧ Tab w' ∧ Below w.heap.size w w' := by
  subst hy
  have hle := hx.le
  have hbA := below_alloc w (.cells #[] 69)
  have START := Lib.hid (show PtI w (w.alloc (.cells #[] 69)) x (.slice (some ⟨w.heap.size, 0, none⟩) 0 0) n E W W [] from
    { s16 := hW, sub := hWn, net := hx.next hbA, own := ownsRow_empty _ _ _, bel := hbA, on := partOn_start _ _, cnt := by have := bitsOf_length W; simp; omega, lt := by simp, tab := hT.keep hbA, tpos := hT.pos })
  obtain ⟨xp, xc, rfl⟩ : ∃ p c, x = .slice p n c := by obtain ⟨p, c, e, _⟩ := hx.sl; exact ⟨p, c, e⟩
  have HX := Lib.hid hx
  clear hbA hx hT hWn
  go_enter Tryd.func83, Tryd.ntmps83
  go_wp2
  go_loopw [1, 5] (fun s1 s5 wr => ∃ (s : Nat) (os : List (List Nat)), s1 = .int .u32 (s : Int) ∧ PtI w wr (.slice xp n xc) s5 n E W s os) (fun s1 _ _ => (bitsOf (intOf s1).toNat).length)
  case atStart => exact ⟨W, [], rfl, START.out⟩
  case round =>
    clear START
    obtain ⟨s, os, rfl, hI⟩ := hrel
    obtain ⟨op, oc, rfl⟩ : ∃ p c, u5 = .slice p os.length c := by
      rcases hI.own.2 with ⟨h1, h2⟩ | ⟨g1, cap, cur, h1, _⟩
      · exact ⟨none, 0, by rw [h1, h2]⟩
      · exact ⟨_, _, h1⟩
    have HI := Lib.hid hI
    have hs16 := hI.s16
    have hcnt := hI.cnt
    clear hI
    by_cases h0 : s = 0
    · have h0' : ((s : Int) != 0) = false := by simp [h0]
      have H0 := Lib.hid h0
      clear h0
      go_wp2
      go_ret
      have hon := HI.out.on
      rw [H0.out, bitsOf_zero] at hon
      exact ⟨_, os, rfl, partOn_stop hon, HI.out.own, by omega, HI.out.lt, HI.out.tab, HI.out.bel⟩
    · have h0' : ((s : Int) != 0) = true := by simp; omega
      have hst := bitsOf_step s h0 (by omega)
      obtain ⟨hub, hu32, _⟩ := testBit_ctz s h0 (by omega)
      have H0 := Lib.hid h0
      obtain ⟨u, hu⟩ : ∃ u, u = Lib.ctz 32 s := ⟨_, rfl⟩
      rw [← hu] at hst hub hu32
      have HU := Lib.hid hu
      have HST := Lib.hid hst
      have HUB := Lib.hid hub
      have hos : os.length < 1000000000 := by omega
      have hown := HI.out.own
      have htab := HI.out.tab
      clear h0 hu hst hub
      go_wp2_with (first
        | (at_builtin; refine wpList_app1 ty_vsets rfl rfl rfl ho4 rfl rfl hos (by have := HI.out.bel.size; have := hb4.size; omega) ?_; intro v' w5 hown' hg _)
        | (go_at_call 100; refine (reach_any _ _ _ n E u s rfl rfl hs16 HI.out.sub HUB.out _ HI.out.net htab).mono ?_; rintro e w4 ⟨m, rfl, hm16, hmb, hb4⟩; have ho4 := ownsRow_below hown hb4; have HM := Lib.hid hmb; have hmi : ((m : Nat) : Int) < 4294967296 := (by omega))
        | (go_at_call 118; refine (least_any _ s rfl H0.out (by omega) _ htab).mono ?_; rintro e w3 ⟨he3, rfl⟩; rw [← HU.out] at he3; subst he3))
      have hand : bits BinOp.andNot IntKind.u32 (s : Int) (m : Int) = ((sub s m : Nat) : Int) := u32_andNot_nat s m (by omega) (by omega)
      have hM' : m = mask (natInts (partL E (bitsOf s) u)) := Nat.eq_of_testBit_eq fun i => by
        rw [Bool.eq_iff_iff, mask_bit, decide_eq_true_eq]
        exact HM.out i
      have hrest : bitsOf (sub s m) = restL E (bitsOf s) u := by
        refine rising_ext _ _ (bitsOf_rising _) (restL_rising (bitsOf_rising _) u) fun i => ?_
        rw [mem_left (sub_lt16 _ _ hs16), testBit_sub s m (by omega) (by omega), mem_restL, mem_left hs16, Bool.and_eq_true, Bool.not_eq_true', Bool.eq_false_iff]
        constructor
        · rintro ⟨h1, h2⟩
          exact ⟨h1, fun hr => h2 ((HM.out i).2 (mem_partL.2 ⟨(mem_left hs16).2 h1, hr⟩))⟩
        · rintro ⟨h1, h2⟩
          exact ⟨h1, fun hm => h2 (mem_partL.1 ((HM.out i).1 hm)).2⟩
      have hlt := restL_lt (E := E) (L := bitsOf s) (u := u) ((mem_left hs16).2 HUB.out)
      have hon := HI.out.on
      rw [HST.out] at hon
      have hon2 := partOn_step hon
      rw [← HST.out, ← hrest] at hon2
      rw [← hrest] at hlt
      have hb5 := below_grown (HI.out.bel.trans (hb4.mono HI.out.bel.size)) ho4 hg (Nat.le_refl _) (by have := HI.out.bel.size; have := hb4.size; omega)
      go_roundw
      case rel =>
        refine ⟨sub s m, os ++ [partL E (bitsOf s) u], val_int hand, ?_⟩
        exact { s16 := sub_lt16 _ _ hs16
                sub := fun i hi => HI.out.sub i (by rw [testBit_sub s m (by omega) (by omega)] at hi; simp only [Bool.and_eq_true] at hi; exact hi.1)
                net := HX.out.next hb5
                own := by rw [mskL_snoc, ← hM', List.map_append, List.length_append]; exact hown'
                bel := hb5
                on := hon2
                cnt := by rw [List.length_append]; simp; omega
                lt := fun l hl => by
                  rcases List.mem_append.1 hl with h | h
                  · exact HI.out.lt l h
                  · simp only [List.mem_singleton] at h
                    subst h
                    exact ⟨partL_rising (bitsOf_rising _) u, fun i hi => HI.out.sub i ((mem_left hs16).1 (mem_partL.1 hi).1)⟩
                tab := (htab.keep hb4).grownP hg (fun e => by
                  have := (ho4.lt _ e.symm).1
                  have := HI.out.tpos
                  omega)
                tpos := HI.out.tpos }
      case measure =>
        rw [hand]
        simp [intOf]
        omega

end Go.Proofs.YtjdlmjmhlbpooaaDoor

/- Walk: masks as rows of numbers. -/
namespace Go.Proofs.YtjdlmjmhlbpooaaDoor
open Go.RowKit

theorem ty_rows64 : SlTy Tryd.prog 22 26 (.slice none 0 0) 1 24 := ⟨Tryd.underlying22, by kernel_rfl, rfl, by decide, by decide⟩

set_option maxRecDepth 100000 in
set_option maxHeartbeats 4000000 in
theorem results_any (x : Value) (a : List Nat) (ha : ∀ s ∈ a, s < 4294967296) (hal : a.length ≤ 100000) (w : World) (hx : Sl w 69 x a.length (a.map u32v)) (hT : Tab w) :
    Calls Tryd.prog 82 #[x] w fun e w' => ∃ u, e = .returned u ∧ DG w' w.heap.size (.agg #[u]) (rowsOf a) ∧ Below w.heap.size w w' := by
  obtain ⟨p, c, rfl, _⟩ := id hx
  have HX := Lib.hid hx
  have HT := Lib.hid hT
  clear hx hT
  go_enter Tryd.func82, Tryd.ntmps82
  go_wp2
  go_loopw [3, 9] (fun ov i wr => ∃ (k : Nat) (vals : List Value), k ≤ a.length ∧ i = .int .i64 k ∧ Below w.heap.size w wr ∧ wr.ownsRow w.heap.size 26 1 ov k vals ∧ vals.length = k ∧ Dis wr w.heap.size k vals (rowsOf a))
    (fun _ i _ => a.length - (intOf i).toNat)
  case atStart => exact ⟨0, [], Nat.zero_le _, rfl, below_alloc _ _, ownsRow_empty _ _ _, rfl, ⟨fun j hj => by omega, fun i j hi => by omega⟩⟩
  case round =>
    obtain ⟨k, vals, hk, rfl, hbel, hown, hvl, hrows⟩ := hrel
    have Hvl := Lib.hid hvl
    have Hrows := Lib.hid hrows
    have Hown := Lib.hid hown
    clear hvl hrows
    have hsz := hbel.size
    by_cases hlt : k < a.length
    · obtain ⟨ab, ao, rfl, hca⟩ := nets_cell (HX.out.below hbel) hlt
      have hs16 := ha _ (List.getElem_mem hlt)
      have HTr := Lib.hid (HT.out.keep hbel)
      have Hrow := Lib.hid (row_rowsOf hlt)
      clear hown
      go_wp2_with (first
        | (go_at_call 61; refine (numbers_any _ a[k] rfl hs16 _ HTr.out).mono ?_; rintro e w5 ⟨rv, rfl, hown5, hb5⟩; obtain ⟨rvp, rvc, hrv⟩ : ∃ p c, rv = .slice p (bitsOf a[k]).length c := (by rcases hown5.2 with ⟨rfl, h0⟩ | ⟨b, c, _, rfl, _⟩; exact ⟨none, 0, by rw [h0]⟩; exact ⟨_, _, rfl⟩); subst hrv; have hownc := ownsRow_below Hown.out hb5; have hs5 := hb5.size)
        | (at_builtin; refine wpList_app1s ty_rows64 rfl rfl rfl hownc rfl rfl (by omega) (by omega) ?_; intro b7 c8 w7 hown7 hg7 _))
      have hd : Dis w5 w.heap.size k vals (rowsOf a) := ⟨fun j hj => ownsRow_below (Hrows.out.rows j hj) hb5, Hrows.out.dis⟩
      have Hd := Lib.hid hd
      clear hd
      go_roundw
      case rel =>
        refine ⟨k + 1, _, by omega, by go_num, below_grown (hbel.trans (hb5.mono hbel.size)) hownc hg7 (Nat.le_refl _) (by omega), hown7, by simp [Hvl.out], ?_⟩
        refine Hd.out.snoc Hvl.out (fun base size n v xs h => ownsRow_other h hownc hg7 (by decide)) (B := wr.heap.size) (by omega) (fun j hj b hb => ((Hrows.out.rows j hj).lt b hb).2) ?_
        rw [Hrow.out, natInts_length]
        exact hown5
      case measure => simp [intOf]; omega
    · obtain rfl : k = a.length := by omega
      have HO := Lib.hid hown
      clear hown
      go_wp2
      go_ret
      exact ⟨_, rfl, ⟨_, vals, rfl, by rw [rowsOf_length]; exact Hvl.out, by rw [rowsOf_length]; exact HO.out, by rw [rowsOf_length]; exact Hrows.out⟩, hbel⟩

end Go.Proofs.YtjdlmjmhlbpooaaDoor
