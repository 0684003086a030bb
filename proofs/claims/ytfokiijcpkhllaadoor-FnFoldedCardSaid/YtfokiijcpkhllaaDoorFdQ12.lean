/- Walk: the program's FoldsOk finds a right folding right. -/
import Derived.Test.YtfokiijcpkhllaaDoorFdQ8
import Derived.Test.YtfokiijcpkhllaaDoorFdQ11
import Derived.Test.YtfokiijcpkhllaaDoorFdQ5
namespace Go.Proofs.YtfokiijcpkhllaaDoor
open Go.RowKit

/-- What the loop carries. -/
structure FkN (w wr : World) (base n k : Nat) (x fv : Value) (a : List Nat) (left : Nat) (gg : List (List Int)) (L : List Int) (fs : List Fd) (l : List Int) (g' : List (List Int)) : Prop where
  same : Same gg L a left
  len : a.length = n
  net : wr.ownsRow base 64 1 x n (a.map u32v)
  fds : Fds wr fv fs
  gr : w.grownBy wr x.ownBlock
  tab : Tab wr
  on : Folds gg L (fs.drop k) l g'
theorem owns_shapeFd {w : World} {base : Nat} {E : TypeId} {size n : Nat} {v : Value} {xs : List Value} (h : w.ownsRow base E size v n xs) : ∃ p c, v = .slice p n c := by
  rcases h.2 with ⟨rfl, h0⟩ | ⟨b, c, _, rfl, _⟩
  · exact ⟨none, 0, by rw [h0]⟩
  · exact ⟨_, _, rfl⟩
theorem Same.nokF {g : List (List Int)} {L : List Int} {a : List Nat} {left : Nat} (h : Same g L a left) : NOk a left := ⟨h.le, h.lt, h.left16, h.inn⟩
theorem FkN.next {w wr W : World} {base n k : Nat} {x fv : Value} {a : List Nat} {left : Nat} {gg : List (List Int)} {L : List Int} {fs : List Fd} {l : List Int} {g' : List (List Int)} (h : FkN w wr base n k x fv a left gg L fs l g') (hb : Below wr.heap.size wr W) :
    FkN w W base n k x fv a left gg L fs l g' :=
  ⟨h.same, h.len, ownsRow_below h.net hb, h.fds.below hb, grown_trans h.gr (grown_of_below hb _), h.tab.keep hb, h.on⟩
set_option maxRecDepth 100000 in
set_option maxHeartbeats 4000000 in
theorem implFoldsOk_yes (v fv : Value) (g : List (List Int)) (fs : List Fd) (l : List Int) (g' : List (List Int)) (hok : GOk g) (hF : Folds g (allL g.length) fs l g') (hfl : fs.length ≤ 16) (w : World) (hg : Gr w v g) (hfd : Fds w fv fs) (hT : Tab w) :
    Calls Tryd.prog 22 #[v, fv] w fun e w' => e = .returned (.bool true) ∧ Below w.heap.size w w' := by
  have hg0 := Lib.hid hg
  obtain ⟨_, rfl, hr⟩ := hg
  obtain ⟨ga, gc, rfl, _⟩ := hr.shape
  obtain ⟨fp, fc, rfl, _⟩ := hfd.shape
  obtain ⟨w1, hw1⟩ : ∃ w1, w1 = w.alloc (.cells #[.slice ga g.length gc] 29) := ⟨_, rfl⟩
  have HX : Hid (Box w1 w.heap.size 29 (.slice ga g.length gc)) := Lib.hid (by rw [hw1]; exact Box.new _ _ _)
  have HB1 : Hid (Below w.heap.size w w1) := Lib.hid (by rw [hw1]; exact below_alloc _ _)
  have HG1 := Lib.hid (hg0.out.below HB1.out)
  have HT1 := Lib.hid (hT.keep HB1.out)
  have HFD1 := Lib.hid (hfd.below HB1.out)
  have HD := Lib.hid (dec_true hok)
  have HOK := Lib.hid hok
  have HF := Lib.hid hF
  have hgl16 := hok.le
  have hfi : ¬ (16 : Int) < (fs.length : Int) := by omega
  obtain ⟨n, hn⟩ : ∃ n, n = g.length := ⟨_, rfl⟩
  have HN := Lib.hid hn
  clear hok hr hfd hF hg0 hT
  go_enter Tryd.func22, Tryd.ntmps22
  go_upto_region 1 with fail
  rw [← hw1]
  clear hw1
  have c1 := HX.out.cell
  clear hn
  go_upto_region 4 with (first
    | (go_at_call 38; refine (implGraphOk_any _ g _ HG1.out).mono ?_; rintro e w2 ⟨he, hb2⟩; rw [HD.out] at he; subst he; have c2 := hb2.at' c1)
    | (go_at_call 41; refine (netsOf_any _ g _ (HG1.out.below hb2) HOK.out).mono ?_; rintro e w3 ⟨xv, rfl, ho3, hb3⟩; rw [← HN.out] at ho3; have HO3 := Lib.hid ho3; obtain ⟨xp, xc, rfl⟩ := owns_shapeFd ho3; clear ho3))
  have HB2 := Lib.hid (HB1.out.trans (hb2.mono HB1.out.size))
  have s2 := hb2.size
  have HB23 := Lib.hid hb3
  have HFD3 := Lib.hid (HFD1.out.below (hb2.trans (hb3.mono hb2.size)))
  have HT3 := Lib.hid (HT1.out.keep (hb2.trans (hb3.mono hb2.size)))
  have HBD : Hid (0 < w2.heap.size) := Lib.hid (Nat.lt_of_lt_of_le HT1.out.pos s2)
  obtain ⟨M, hM⟩ : ∃ M, M = 2 ^ n - 1 := ⟨_, rfl⟩
  have hn16 : n ≤ 16 := by rw [HN.out]; exact hgl16
  have START : Hid (FkN w3 w3 w2.heap.size n 0 (.slice xp n xc) (.slice fp fs.length fc) (netL g) M g (allL g.length) fs l g') := Lib.hid
    { same := by rw [hM, HN.out]; exact same_start HOK.out, len := by rw [HN.out]; simp [netL], net := HO3.out, fds := HFD3.out, gr := grown_of_below (Below.refl _ _) _, tab := HT3.out, on := HF.out }
  have htb : Hid (some 0 ≠ (Value.slice xp n xc).ownBlock) := Lib.hid fun e => by have := (HO3.out.lt _ e.symm).1; have := HBD.out; omega
  have HEND : Hid (∀ wr, w3.grownBy wr (Value.slice xp n xc).ownBlock → Below w.heap.size w wr) := Lib.hid fun wr h => below_grown (HB2.out.trans (hb3.mono HB2.out.size)) HO3.out h HB2.out.size (Nat.le_trans HB2.out.size hb3.size)
  have HLT : Hid (∀ b, (Value.slice xp n xc).ownBlock = some b → b < w3.heap.size) := Lib.hid fun b e => (HO3.out.lt _ e).2
  have HM := Lib.hid hM
  clear hM c1 c2 hb2 hb3 HX HB1 HG1 HT1 HFD1 s2
  go_upto_region 5 with (go_at_call 46; refine (all_any' _ n _ M (by omega) HM.out _).mono ?_; rintro e w4 ⟨rfl, rfl⟩)
  go_wp2_with fail
  go_loopw [6, 25] (fun lv iv wr => ∃ (k : Nat) (a : List Nat) (left : Nat) (gg : List (List Int)) (L : List Int), k ≤ fs.length ∧ iv = .int .i64 (k : Int) ∧ lv = .int .u32 (left : Int) ∧ Hid (FkN w3 wr w2.heap.size n k (.slice xp n xc) (.slice fp fs.length fc) a left gg L fs l g')) (fun _ iv _ => fs.length - (intOf iv).toNat)
  case atStart => exact ⟨0, _, _, _, _, Nat.zero_le _, rfl, rfl, START⟩
  case round =>
    clear START
    obtain ⟨k, a, left, gg, L, hk, rfl, rfl, HI⟩ := hrel
    by_cases hlt : k < fs.length
    · have hki : (k : Int) < (fs.length : Int) := by omega
      obtain ⟨⟨V, A, B⟩, hf⟩ : ∃ f, f = fs[k] := ⟨_, rfl⟩
      have hon := HI.out.on
      rw [List.drop_eq_getElem_cons hlt, ← hf] at hon
      obtain ⟨h1, h2, h3, h4⟩ := folds_head hon
      have hS := HI.out.same
      have h1' : V ∈ natInts (bitsOf left) := by rw [← hS.list]; exact h1
      obtain ⟨m, hm, rfl⟩ := mem_natInts.1 h1'
      have hbit : left.testBit m = true := (mem_left hS.left16).1 hm
      have hml := hS.inn m hbit
      have hmn : m < n := by rw [← HI.out.len]; exact hml
      have hrow := hS.rows m hbit
      have h2' : (⟨(m : Int), A, B⟩ : Fd) = atRow (m : Int) (row gg m) := h2
      have h3' : (row gg m).length ≤ 2 := h3
      rw [hrow] at h2' h3'
      have HAT := Lib.hid h2'
      have H2 := Lib.hid h3'
      have hleft16 := hS.left16
      have HNX : Hid (Folds (foldG gg ⟨(m : Int), A, B⟩) (lessL L (m : Int)) (fs.drop (k + 1)) l g') := Lib.hid h4
      have HSM : Hid (Same (foldG gg ⟨(m : Int), A, B⟩) (lessL L (m : Int)) (awayL a ⟨(m : Int), A, B⟩) (sub left (2 ^ m))) := Lib.hid (by rw [h2']; exact hS.fold hbit h3')
      have HP := Lib.hid (hS.nokF.pair h3' h2')
      obtain ⟨_, _, e1, _, _, _, hat⟩ := HI.out.fds.shape
      cases e1
      obtain ⟨lb, lo, rfl, d0, d1, d2⟩ := hat.fold hlt
      rw [← hf] at d0 d1 d2
      have HC : Hid (dec ((0 : Int) ≤ (m : Int) ∧ (m : Int) ≤ (n : Int) - 1) = true) := Lib.hid (dec_true (by omega))
      have hand := Lib.hid (u32_andNot_nat left (2 ^ m) (by omega) (pow_lt32 m (by omega)))
      clear hat h1 h1' h2 h2' h3 h3' h4 hon hf hS hm hml hrow
      go_upto_region 8 with fail
      obtain ⟨w5, hw5⟩ : ∃ w5, w5 = wr.alloc (.cells #[.int .i64 (m : Int), .int .i64 A, .int .i64 B] 89) := ⟨_, rfl⟩
      obtain ⟨fb, hfb⟩ : ∃ fb, fb = wr.heap.size := ⟨_, rfl⟩
      have hb5 : Below wr.heap.size wr w5 := by rw [hw5]; exact below_alloc _ _
      obtain ⟨z0, z1, z2⟩ := cell_new3 wr (.int .i64 (m : Int)) (.int .i64 A) (.int .i64 B) 89
      rw [← hw5, ← hfb] at z0 z1 z2 ⊢
      have hfs : fb < w5.heap.size := World.block_lt_of_cell? _ _ z0
      have HI5 := Lib.hid (HI.out.next hb5)
      have hxf : Hid (some fb ≠ (Value.slice xp n xc).ownBlock) := Lib.hid fun e => by have := HLT.out _ e.symm; have := HI.out.gr.size; omega
      clear hw5 hb5 hfb d0 d1 d2
      go_upto_region 10 with (first
        | (go_at_call 70; refine (inRange_any _ _ _ _).mono ?_; rintro e w6 ⟨he, hw⟩; rw [HC.out] at he; subst he; subst hw)
        | (go_at_call 71; refine (has_any _ _ left m rfl rfl (by omega) (by omega) _).mono ?_; rintro e w7 ⟨he, hw⟩; rw [hbit] at he; subst he; subst hw))
      go_upto_region 11 with (go_at_call 72; refine (foldOf_yes' _ _ n _ _ a left m HI5.out.len rfl rfl HI5.out.same.nokF (by rw [HI5.out.len]; exact hmn) _ (Sl.of_owns HI5.out.net (by omega)) HI5.out.tab H2.out _ A B HAT.out).mono ?_; rintro e w6 ⟨rfl, hb6⟩)
      obtain ⟨w7, hw7⟩ : ∃ w7, w7 = w6.alloc (.cells #[.int .i64 (m : Int), .int .i64 A, .int .i64 B] 89) := ⟨_, rfl⟩
      have hb7 : Below w5.heap.size w5 w7 := by rw [hw7]; exact hb6.alloc hb6.size _
      obtain ⟨y0, y1, y2⟩ := cell_new3 w6 (.int .i64 (m : Int)) (.int .i64 A) (.int .i64 B) 89
      rw [← hw7] at y0 y1 y2 ⊢
      have x0 := hb7.at' z0
      have x1 := hb7.at' z1
      have x2 := hb7.at' z2
      have HI7 := Lib.hid (HI5.out.next hb7)
      have hneq := fold_neq (m : Int) A B
      have hgd := fold_guard
      clear hw7 hb7 hb6 z0 z1 z2
      go_upto_region 13 with fail
      clear hneq hgd
      go_upto_region 14 with (go_at_call 73; refine (foldAway_any _ a ⟨(m : Int), A, B⟩ w2.heap.size HI7.out.same.le HI7.out.same.lt HP.out _ (by rw [HI7.out.len]; exact HI7.out.net)).mono ?_; rintro e w8 ⟨rfl, hown8, hg8⟩; have t0 := hg8.cell x0 hxf.out)
      have HN8 : Hid (FkN w3 w8 w2.heap.size n (k + 1) (.slice xp n xc) (.slice (some ⟨lb, lo, none⟩) fs.length fc) (awayL a ⟨(m : Int), A, B⟩) (sub left (2 ^ m)) (foldG gg ⟨(m : Int), A, B⟩) (lessL L (m : Int)) fs l g') := Lib.hid
        { same := HSM.out, len := by rw [awayL_length]; exact HI7.out.len
          net := by rw [awayL_length, HI7.out.len] at hown8; exact hown8
          fds := Sl.other HI7.out.fds HI7.out.net hg8 (by decide)
          gr := grown_trans HI7.out.gr hg8
          tab := HI7.out.tab.grown hg8 htb.out
          on := HNX.out }
      clear hown8 hg8 x0 x1 x2 y0 y1 y2
      go_wp2_with (go_at_call 74; refine (one_any _ m rfl (by omega) _).mono ?_; rintro e w9 ⟨rfl, rfl⟩)
      have h2p : (2 : Int) ^ m = ((2 ^ m : Nat) : Int) := by simp
      have hand' : bits BinOp.andNot IntKind.u32 (left : Int) (2 ^ m) = ((sub left (2 ^ m) : Nat) : Int) := by rw [h2p]; exact hand.out
      go_roundw
      case rel => exact ⟨k + 1, _, _, _, _, by omega, by go_num, val_int hand', HN8⟩
      case measure => simp [intOf]; omega
    · obtain rfl : k = fs.length := by omega
      go_wp2_with fail
      go_ret
      exact ⟨rfl, HEND.out _ HI.out.gr⟩

end Go.Proofs.YtfokiijcpkhllaaDoor

/- Plain: colouring along a folding order. -/
namespace Go.Proofs.YtfokiijcpkhllaaDoor

structure FdIn (n : Nat) (f : Fd) : Prop where
  V0 : 0 ≤ f.V
  V1 : f.V < n
  A0 : -1 ≤ f.A
  A1 : f.A < n
  B0 : -1 ≤ f.B
  B1 : f.B < n
  BA : 0 ≤ f.B → 0 ≤ f.A

def RowsIn (n : Nat) (g : List (List Int)) : Prop := ∀ j, ∀ x ∈ row g j, 0 ≤ x ∧ x < n

theorem atRow_in {n : Nat} {v : Int} {r : List Int} (hv : 0 ≤ v ∧ v < n) (h : ∀ x ∈ r, 0 ≤ x ∧ x < n) : FdIn n (atRow v r) := by
  match r, h with
  | [], _ => exact ⟨hv.1, hv.2, by simp [atRow], by simp [atRow]; omega, by simp [atRow], by simp [atRow]; omega, by simp [atRow]⟩
  | [a], h =>
    have := h a (by simp)
    exact ⟨hv.1, hv.2, by simp [atRow]; omega, by simp [atRow]; omega, by simp [atRow], by simp [atRow]; omega, by simp [atRow]⟩
  | a :: b :: r, h =>
    have h1 := h a (by simp)
    have h2 := h b (by simp)
    exact ⟨hv.1, hv.2, by simp [atRow]; omega, by simp [atRow]; omega, by simp [atRow]; omega, by simp [atRow]; omega, by simp [atRow]; omega⟩

theorem mem_intoL' {n x : Int} {l : List Int} (h : x ∈ intoL l n) : x ∈ l ∨ x = n := mem_intoL.1 h

theorem foldG_in {n : Nat} {g : List (List Int)} {f : Fd} (h : RowsIn n g) (hf : FdIn n f) : RowsIn n (foldG g f) := by
  intro j x hx
  by_cases hj : j < g.length
  case neg =>
    have : row (foldG g f) j = [] := by simp [row, List.getElem?_eq_none (show (foldG g f).length ≤ j by rw [foldG_length]; omega)]
    rw [this] at hx
    cases hx
  rw [row_foldG g f hj] at hx
  have k1 : ∀ x ∈ fr1 g f j, 0 ≤ x ∧ x < n := by
    intro x hx
    unfold fr1 at hx
    split at hx
    · cases hx
    · exact h j x (mem_lessL.1 hx).1
  have k2 : ∀ x ∈ fr2 g f j, 0 ≤ x ∧ x < n := by
    intro x hx
    unfold fr2 at hx
    split at hx
    · rename_i hc
      rcases mem_intoL' hx with h1 | rfl
      · exact k1 x h1
      · exact ⟨hc.2, hf.B1⟩
    · exact k1 x hx
  unfold foldRow at hx
  split at hx
  · rename_i hc
    rcases mem_intoL' hx with h1 | rfl
    · exact k2 x h1
    · exact ⟨hf.BA (by omega), hf.A1⟩
  · exact k2 x hx

theorem folds_in {n : Nat} {g : List (List Int)} {left : List Int} {fs : List Fd} {l : List Int} {g' : List (List Int)} (h : Folds g left fs l g') : RowsIn n g → (∀ x ∈ left, 0 ≤ x ∧ x < n) → ∀ f ∈ fs, FdIn n f := by
  induction h with
  | stop _ => intro _ _ f hf; cases hf
  | step h1 h2 h ih =>
    intro hg hl f hf
    rename_i g l1 l2 v fs l g'
    have hv := hl v (by simp)
    have ha := atRow_in hv (hg v.toNat)
    rcases List.mem_cons.1 hf with rfl | hf
    · exact ha
    · exact ih (foldG_in hg ha) (fun x hx => hl x (mem_lessL.1 hx).1) f hf

theorem foldedS_in {g : List (List Int)} {fs : List Fd} {l : List Int} (h : FoldedS g fs l) : ∀ f ∈ fs, FdIn g.length f := by
  rcases h with ⟨hg, g', h⟩ | ⟨_, rfl, _⟩
  · refine folds_in h ?_ ?_
    · intro j x hx
      by_cases hj : j < g.length
      · have := (hg.sets j hj).1.1 x hx
        exact this
      · have : row g j = [] := by simp [row, List.getElem?_eq_none (show g.length ≤ j by omega)]
        rw [this] at hx
        cases hx
    · intro x hx
      simp only [allL, List.mem_map, List.mem_range] at hx
      obtain ⟨i, hi, rfl⟩ := hx
      omega
  · intro f hf; cases hf

/-- A colour that a fold's neighbours bear. -/
def Taken (out : List Int) (f : Fd) (n : Int) : Prop := (0 ≤ f.A ∧ out.getD f.A.toNat 0 = n) ∨ (0 ≤ f.B ∧ out.getD f.B.toNat 0 = n)
instance (out : List Int) (f : Fd) (n : Int) : Decidable (Taken out f n) := by unfold Taken; infer_instance
def colN (out : List Int) (f : Fd) : Nat := if Taken out f 0 then (if Taken out f 1 then 2 else 1) else 0
theorem colN_le (out : List Int) (f : Fd) : colN out f ≤ 2 := by
  unfold colN; split
  · split <;> omega
  · omega
theorem colN_lt {out : List Int} {f : Fd} {k : Nat} (h : k < colN out f) : Taken out f k := by
  unfold colN at h
  split at h
  · split at h
    · match k, h with
      | 0, _ => assumption
      | 1, _ => assumption
    · match k, h with
      | 0, _ => assumption
  · omega
theorem colN_free {out : List Int} {f : Fd} : ¬ Taken out f (colN out f) := by
  unfold colN
  split
  · split
    · rename_i h0 h1
      intro h2
      unfold Taken at h0 h1 h2
      have e0 : ((2 : Nat) : Int) = 2 := rfl
      rw [e0] at h2
      omega
    · assumption
  · assumption
def colStep (out : List Int) (f : Fd) : List Int := out.set f.V.toNat (colN out f)
def colL (n : Nat) (fs : List Fd) : List Int := fs.foldr (fun f out => colStep out f) (List.replicate n 0)
theorem colL_length (n : Nat) (fs : List Fd) : (colL n fs).length = n := by
  induction fs with
  | nil => simp [colL]
  | cons f fs ih => simp only [colL, List.foldr_cons, colStep, List.length_set] at ih ⊢; exact ih
theorem colL_lt (n : Nat) (fs : List Fd) : ∀ x ∈ colL n fs, x = 0 ∨ x = 1 ∨ x = 2 := by
  induction fs with
  | nil => intro x hx; simp only [colL, List.foldr_nil, List.mem_replicate] at hx; exact .inl hx.2
  | cons f fs ih =>
    intro x hx
    simp only [colL, List.foldr_cons, colStep] at ih hx
    rcases List.mem_or_eq_of_mem_set hx with h | rfl
    · exact ih x h
    · have := colN_le (List.foldr (fun f out => out.set f.V.toNat (colN out f)) (List.replicate n 0) fs) f
      omega
theorem colL_step (n : Nat) (fs : List Fd) (k : Nat) (h : k < fs.length) : colL n (fs.drop k) = colStep (colL n (fs.drop (k + 1))) fs[k] := by
  rw [List.drop_eq_getElem_cons h]
  rfl

/-- What ThreeColours returns. -/
def ColS (g : List (List Int)) (ys : List Int) : Prop := (SerS g ∧ ∃ fs l, FoldedS g fs l ∧ ys = colL g.length fs) ∨ (¬ SerS g ∧ ys = [])

end Go.Proofs.YtfokiijcpkhllaaDoor
