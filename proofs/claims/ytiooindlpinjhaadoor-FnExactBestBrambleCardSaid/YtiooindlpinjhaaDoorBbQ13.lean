/- Walks: the reference's graph of some listed vertices. -/
import Derived.Test.YtiooindlpinjhaaDoorBbQ12
import Derived.Test.YtiooindlpinjhaaDoorBbQ11
import Derived.Test.YtiooindlpinjhaaDoorBbQ8
import Derived.Test.YtiooindlpinjhaaDoorBbQ5
namespace Go.Proofs.YtiooindlpinjhaaDoor
open Go.RowKit

theorem SG.setBox {w : World} {base b : Nat} {v x : Value} {g : List (List Int)} (h : SG w base v g) (hb : Box w b 28 x) (u : Value) : SG (w.setCell ⟨b, 0, none⟩ u) base v g := by
  obtain ⟨u0, vals, h1, h2, h3, h4⟩ := h
  exact ⟨u0, vals, h1, h2, ownsRow_setBox h3 hb (by decide) _, fun j hj => (h4 j hj).setBox hb (by decide) _⟩
theorem SG.base {w : World} {base base' : Nat} {v : Value} {g : List (List Int)} (h : SG w base v g) (hb : base' ≤ base) : SG w base' v g := by
  obtain ⟨u0, vals, h1, h2, h3, h4⟩ := h
  exact ⟨u0, vals, h1, h2, ownsRow_base h3 hb, h4⟩
theorem SG.lt {w : World} {base : Nat} {u : Value} {g : List (List Int)} (h : SG w base (.agg #[u]) g) : ∀ k, u.ownBlock = some k → base ≤ k ∧ k < w.heap.size := by
  obtain ⟨u0, vals, h1, h2, h3, h4⟩ := h
  cases h1
  exact fun k hk => h3.lt k hk

structure L2I (W0 wr : World) (b5 : Nat) (p : Option Addr) (c m : Nat) (gg : List (List Int)) : Prop where
  sg : SG wr W0.heap.size (.agg #[.slice p m c]) gg
  bel : Below W0.heap.size W0 wr
  box : Box wr b5 28 (.slice p m c)
  own : ∀ k, (Value.slice p m c).ownBlock = some k → W0.heap.size ≤ k ∧ k < b5
  b5 : W0.heap.size ≤ b5

theorem L2I.next {W0 wr wx : World} {b5 : Nat} {p : Option Addr} {c m : Nat} {gg : List (List Int)} (h : L2I W0 wr b5 p c m gg) (hb : Below wr.heap.size wr wx) : L2I W0 wx b5 p c m gg :=
  ⟨h.sg.below hb, h.bel.trans (hb.mono h.bel.size), h.box.keep hb, h.own, h.b5⟩
theorem L2I.link {W0 wr w2 : World} {b5 : Nat} {p : Option Addr} {c m : Nat} {gg gg' : List (List Int)} (h : L2I W0 wr b5 p c m gg) (hs : SG w2 W0.heap.size (.agg #[.slice p m c]) gg') (hg : wr.grownBy w2 (Value.slice p m c).ownBlock) :
    L2I W0 (w2.setCell ⟨b5, 0, none⟩ (.slice p m c)) b5 p c m gg' := by
  have hbox := h.box.grown hg (fun e => by have := (h.own b5 e.symm).2; omega)
  exact ⟨hs.setBox hbox _, (h.bel.grown hg h.bel.size (fun k hk => (h.own k hk).1)).setCell h.b5 _, hbox.set _, h.own, h.b5⟩

set_option maxRecDepth 100000 in
set_option maxHeartbeats 4000000 in
theorem l2Of_any (v lv : Value) (g : List (List Int)) (l : List Int) (hl : ∀ x ∈ l, 0 ≤ x ∧ x < g.length) (hm : l.length ≤ 1000) (hE : SymE l.length (indE g l)) (w : World) (hg : Gr w v g) (hn : Nums w 2 .i64 lv l) :
    Calls Tryd.prog 107 #[v, lv] w fun e w' => ∃ u, e = .returned u ∧ SG w' w.heap.size u (indL g l) ∧ Below w.heap.size w w' := by
  have hg0 := hg
  obtain ⟨u, rfl, hr⟩ := hg
  obtain ⟨gp, gc, rfl, _⟩ := hr.shape
  obtain ⟨lp, lc, rfl, _⟩ := id hn.shape
  obtain ⟨W0, hW0⟩ : ∃ W0, W0 = (w.alloc (.cells #[.slice gp g.length gc] 28)).alloc (.cells #[.slice none 0 0] 28) := ⟨_, rfl⟩
  have hb0 : Below w.heap.size w W0 := by rw [hW0]; exact below_alloc2 _ _ _
  have hbg : Box W0 w.heap.size 28 (.slice gp g.length gc) := by rw [hW0]; exact (Box.new _ _ _).alloc _
  have hbn : Box W0 (w.heap.size + 1) 28 (.slice none 0 0) := by
    have := Box.new (w.alloc (.cells #[.slice gp g.length gc] 28)) (.slice none 0 0) 28
    rw [size_alloc] at this
    rw [hW0]; exact this
  have HW0 := Lib.hid hW0
  have HB0 := Lib.hid hb0
  have HBG := Lib.hid hbg
  have HBN := Lib.hid hbn
  have HG := Lib.hid (hg0.below hb0)
  have HN := Lib.hid (hn.below hb0)
  have sz0 : W0.heap.size = w.heap.size + 2 := by rw [hW0, size_alloc, size_alloc]
  clear hr hn hg0 hb0 hbg hbn
  go_enter Tryd.func107, Tryd.ntmps107
  go_upto_region 1 with fail
  rw [← hW0]
  clear hW0
  go_upto_region 2 with (go_at_call 128; refine (l1Empty_any _ l.length rfl hm _).mono ?_; rintro e w3 ⟨u3, rfl, hs3, hb3⟩; obtain ⟨p, c, rfl⟩ := hs3.shape; rw [List.length_replicate] at hs3 ⊢)
  have hlen : (List.replicate l.length ([] : List Int)).length = l.length := by simp
  have START : Hid (L2I W0 (w3.alloc (.cells #[.slice p l.length c] 28)) w3.heap.size p c l.length (matG l.length (uptoE (indE g l) 0 0))) := Lib.hid
    ⟨by rw [upto_start]; exact hs3.below (below_alloc _ _), hb3.alloc hb3.size _, Box.new _ _ _, hs3.lt, hb3.size⟩
  clear hs3 hb3 hlen
  go_wp2_with fail
  go_loopw [6] (fun i wr => ∃ k : Nat, k ≤ l.length ∧ i = .int .i64 k ∧ L2I W0 wr w3.heap.size p c l.length (matG l.length (uptoE (indE g l) k 0))) (fun i _ => l.length - (intOf i).toNat)
  case atStart => exact ⟨0, Nat.zero_le _, rfl, START.out⟩
  case round =>
    obtain ⟨i, hi, rfl, hI⟩ := hrel
    have HI := Lib.hid hI
    clear hI
    by_cases hlt : i < l.length
    · have hin := hl _ (List.getElem_mem hlt)
      go_wp2_with fail
      go_loopw [7] (fun i' wr => ∃ k : Nat, k ≤ i ∧ i' = .int .i64 k ∧ L2I W0 wr w3.heap.size p c l.length (matG l.length (uptoE (indE g l) i k))) (fun i' _ => i - (intOf i').toNat)
      case atStart => exact ⟨0, Nat.zero_le _, rfl, HI.out⟩
      case round =>
        clear HI
        obtain ⟨k, hk, rfl, hI⟩ := hrel
        have HI := Lib.hid hI
        clear hI
        by_cases hlt2 : k < i
        · have hkl : k < l.length := by omega
          have hkn := hl _ (List.getElem_mem hkl)
          obtain ⟨_, _, e1, _, _, _, hat⟩ := id (HN.out.below HI.out.bel).shape
          cases e1
          obtain ⟨b, o, rfl, hci⟩ := hat.num hlt
          obtain ⟨_, _, hbo, hck⟩ := hat.num hkl
          cases hbo
          have hcg := HI.out.bel.at (by omega) HBG.out.cell
          have hGr := Lib.hid (HG.out.below HI.out.bel)
          have hedge : Hid (∀ x, x = l[k] → dec (x ∈ row g l[i].toNat) = indE g l i k) := Lib.hid (by
            rintro x rfl
            unfold indE
            rw [getD_int hlt, getD_int hkl, decide_dec])
          have e0 : (0 : Int) ≤ (k : Int) := by omega
          have e1 : (k : Int) < (l.length : Int) := by omega
          have e2 : (i : Int) < (l.length : Int) := by omega
          have Hin := Lib.hid hin
          have Hkn := Lib.hid hkn
          clear hat hin hkn
          go_upto_region 8 with fail
          go_cut [31] (fun s wx => s = .bool (indE g l i k) ∧ Below wr.heap.size wr wx)
          case first =>
            go_region_held3 (fun w' => w'.cell? ⟨w.heap.size, 0, none⟩ = some (.slice gp g.length gc) ∧ w'.cell? ⟨b, o + i, none⟩ = some (.int .i64 l[i]) ∧ w'.cell? ⟨b, o + k, none⟩ = some (.int .i64 l[k]))
              (first | go_keep | exact ⟨hb4'.at' hcg, hb4'.at' hci, hb4'.at' hck⟩)
              (first | (go_at_call 99; refine (l1Edge_any _ g _ _ l[i].toNat l[k].toNat (Int.toNat_of_nonneg Hin.out.1).symm (Int.toNat_of_nonneg Hkn.out.1).symm (by have := Hin.out; omega) _ (hGr.out.below (below_dN (Below.refl _ _) 1))).mono ?_; rintro e w4 ⟨rfl, hb4⟩; have hb4' : Below wr.heap.size wr w4 := (below_dN (Below.refl _ _) 1).trans hb4))
            all_goals go_wp2
            all_goals go_meet
            all_goals exact ⟨by rw [hedge.out _ (by have := Hkn.out; omega)], hb4'⟩
          case rest =>
            obtain ⟨rfl, hbc⟩ := hcut
            have HIc := Lib.hid (HI.out.next hbc)
            clear hci hck hcg
            have hb5 := HIc.out.box.cell
            have hf5 := HIc.out.box.free
            have hml := matG_length l.length (uptoE (indE g l) i k)
            cases hE' : indE g l i k
            · go_wp2
              go_roundw
              case rel => exact ⟨k + 1, by omega, by go_num, by rw [← upto_no hE (by omega) hlt2 hE']; exact HIc.out⟩
              case measure => simp [intOf]; omega
            · have hlk : ∀ wz, wz = wc → Calls Tryd.prog 106 #[.agg #[.slice p l.length c], .int .i64 k, .int .i64 i] wz fun e w' => e = .returned (.agg #[.slice p l.length c]) ∧ SG w' W0.heap.size (.agg #[.slice p l.length c]) (matG l.length (uptoE (indE g l) i (k + 1))) ∧ wz.grownBy w' (Value.slice p l.length c).ownBlock := by
                rintro wz rfl
                have := l1Link_any p c (matG l.length (uptoE (indE g l) i k)) k i k i W0.heap.size rfl rfl (by omega) (by omega) (fun j _ => Nat.le_trans (matG_row_le j) hm) wz (by rw [hml]; exact HIc.out.sg)
                rw [hml, upto_yes hE (by omega) hlt2 hE'] at this
                exact this
              have Hlk := Lib.hid hlk
              clear hlk
              go_wp2_with (go_at_call 106; refine (Hlk.out _ rfl).mono ?_; rintro e w6 ⟨rfl, hs6, hg6⟩; have hbx := HIc.out.box.grown hg6 (fun e => by have := (HIc.out.own _ e.symm).2; omega); have hc6 := hbx.cell; have hf6 := hbx.free)
              go_roundw
              case rel => exact ⟨k + 1, by omega, by go_num, HIc.out.link hs6 hg6⟩
              case measure => simp [intOf]; omega
        · obtain rfl : k = i := by omega
          go_wp2
          go_roundw
          case rel => exact ⟨k + 1, by omega, by go_num, by rw [← upto_row hE]; exact HI.out⟩
          case measure => simp [intOf]; omega
    · obtain rfl : i = l.length := by omega
      have hb5 := HI.out.box.cell
      have hbn := HI.out.bel.at (by omega) HBN.out.cell
      have hbf := (HI.out.bel.frozen (p := ⟨w.heap.size + 1, 0, none⟩) (by show w.heap.size + 1 < _; omega)).trans HBN.out.free
      go_wp2
      have hbn2 := HBN.out.below HI.out.bel (by omega)
      refine bodyPost_ret (v := .agg #[.slice p l.length c]) (by simp [results, Tryd.results107, go_sem, hbn]) rfl ⟨_, rfl, ?_, ?_⟩
      · have hs := (HI.out.sg.setBox hbn2 (.slice p l.length c)).base (base' := w.heap.size) (by omega)
        rw [upto_end] at hs
        exact hs
      · exact (HB0.out.trans (HI.out.bel.mono HB0.out.size)).setCell (by show w.heap.size ≤ w.heap.size + 1; omega) _


end Go.Proofs.YtiooindlpinjhaaDoor

/- Walk: the program's edges. -/
namespace Go.Proofs.YtiooindlpinjhaaDoor
open Go.RowKit

theorem owns_shapeE {w : World} {base : Nat} {E : TypeId} {size n : Nat} {v : Value} {xs : List Value} (h : w.ownsRow base E size v n xs) : ∃ p c, v = .slice p n c := by
  rcases h.2 with ⟨rfl, h0⟩ | ⟨b, c, _, rfl, _⟩
  · exact ⟨none, 0, by rw [h0]⟩
  · exact ⟨_, _, rfl⟩
theorem get_getDP {α : Type} (l : List α) (k : Nat) (d : α) (h : k < l.length) : l[k]? = some (l.getD k d) := by simp [h]

/-- A row of pairs, the outer row the callee's own. -/
def PrsO (w : World) (base : Nat) (ov : Value) (l : List (Nat × Nat)) : Prop :=
  ∃ vals, vals.length = l.length ∧ w.ownsRow base 26 1 ov l.length vals ∧ ∀ j, j < l.length → Nums w 2 .i64 (vals.getD j undef) (row (prsL l) j)
theorem row_prsL {l : List (Nat × Nat)} {j : Nat} (h : j < l.length) : row (prsL l) j = [(l[j].1 : Int), (l[j].2 : Int)] := by simp [row, prsL, h]
theorem PrsO.below {w w' : World} {base : Nat} {ov : Value} {l : List (Nat × Nat)} (h : PrsO w base ov l) (hb : Below w.heap.size w w') : PrsO w' base ov l := by
  obtain ⟨vals, h1, h2, h3⟩ := h
  exact ⟨vals, h1, ownsRow_below h2 hb, fun j hj => (h3 j hj).below hb⟩
theorem PrsO.shape {w : World} {base : Nat} {ov : Value} {l : List (Nat × Nat)} (h : PrsO w base ov l) : ∃ p c, ov = .slice p l.length c := by
  obtain ⟨vals, _, h2, _⟩ := h
  exact owns_shapeE h2
theorem PrsO.base {w : World} {base base' : Nat} {ov : Value} {l : List (Nat × Nat)} (h : PrsO w base ov l) (hb : base' ≤ base) : PrsO w base' ov l := by
  obtain ⟨vals, h1, h2, h3⟩ := h
  exact ⟨vals, h1, ownsRow_base h2 hb, h3⟩
theorem PrsO.nil (w : World) (base : Nat) (hb : base ≤ w.heap.size) : PrsO (w.alloc (.cells #[] 26)) base (.slice (some ⟨w.heap.size, 0, none⟩) 0 0) [] :=
  ⟨[], rfl, ownsRow_base (ownsRow_empty w 26 1) hb, fun j hj => by simp at hj⟩
/-- What is appended. -/
theorem PrsO.snoc {w w' : World} {base : Nat} {ov ov' rv : Value} {l : List (Nat × Nat)} {e : Nat × Nat} {vals : List Value} (hl : vals.length = l.length) (ho : w.ownsRow base 26 1 ov l.length vals) (hr : ∀ j, j < l.length → Nums w 2 .i64 (vals.getD j undef) (row (prsL l) j))
    (ho' : w'.ownsRow base 26 1 ov' (l.length + 1) (vals ++ [rv])) (hg : w.grownBy w' ov.ownBlock) (hn : Nums w 2 .i64 rv [(e.1 : Int), (e.2 : Int)]) : PrsO w' base ov' (l ++ [e]) := by
  refine ⟨vals ++ [rv], by simp [hl], by rw [List.length_append]; exact ho', fun j hj => ?_⟩
  rw [List.length_append] at hj
  by_cases h : j < l.length
  · rw [getD_append_left _ _ _ _ (by omega)]
    have e2 : row (prsL (l ++ [e])) j = row (prsL l) j := by rw [row_prsL (by rw [List.length_append]; omega), row_prsL h]; simp [h]
    rw [e2]
    exact (hr j h).other ho hg (by decide)
  · have hj' : j = l.length := by simp at hj; omega
    subst hj'
    rw [← hl, getD_append_last, hl]
    have e2 : row (prsL (l ++ [e])) l.length = [(e.1 : Int), (e.2 : Int)] := by rw [row_prsL (by rw [List.length_append]; simp)]; simp
    rw [e2]
    exact hn.other ho hg (by decide)
theorem PrsO.get {w : World} {base : Nat} {p : Option Addr} {n c : Nat} {l : List (Nat × Nat)} (h : PrsO w base (.slice p n c) l) {k : Nat} (hk : k < l.length) :
    ∃ b o rp rc, p = some ⟨b, o, none⟩ ∧ w.cell? ⟨b, o + k, none⟩ = some (.slice rp 2 rc) ∧ Nums w 2 .i64 (.slice rp 2 rc) [(l[k].1 : Int), (l[k].2 : Int)] := by
  obtain ⟨vals, h1, h2, h3⟩ := h
  have hn := h3 k hk
  rw [row_prsL hk] at hn
  obtain ⟨rp, rc, hv, _⟩ := id hn.shape
  rcases h2.2 with ⟨_, h0⟩ | ⟨g, cap, _, e, _⟩
  · omega
  · simp only [Value.slice.injEq] at e
    obtain ⟨rfl, rfl, rfl⟩ := e
    have hc := h2.cellAt k (by omega)
    rw [get_getDP vals k undef (by omega), hv] at hc
    rw [hv] at hn
    exact ⟨g, 0, rp, rc, rfl, by rw [Nat.zero_add]; exact hc, hn⟩

def edT (g : List (List Int)) (k t : Nat) : List (Nat × Nat) := (((row g k).take t).filter fun x => decide ((k : Int) < x)).map fun x => (k, x.toNat)
theorem edT_succ {g : List (List Int)} {k t : Nat} (h : t < (row g k).length) : edT g k (t + 1) = if (k : Int) < (row g k)[t] then edT g k t ++ [(k, (row g k)[t].toNat)] else edT g k t := by
  unfold edT
  rw [take_snoc _ t h, List.filter_append]
  split
  · rename_i hc; rw [List.filter_cons_of_pos (by simpa using hc)]; simp
  · rename_i hc; rw [List.filter_cons_of_neg (by simpa using hc)]; simp
theorem edT_len (g : List (List Int)) (k t : Nat) : (edT g k t).length ≤ (row g k).length := by
  simp only [edT, List.length_map]
  exact Nat.le_trans (List.length_filter_le _ _) (by rw [List.length_take]; omega)
theorem edT_end {g : List (List Int)} (hg : GOk g) {k : Nat} (hk : k < g.length) : edT g k (row g k).length = edRow g.length (ofG g) k := by
  unfold edT edRow
  rw [List.take_length]
  have hs := hg.sets k hk
  have e : ((row g k).filter fun x => decide ((k : Int) < x)).map Int.toNat = (List.range g.length).filter fun v => decide (k < v) && ofG g k v := by
    refine rising_ext _ _ ?_ (List.Pairwise.filter _ List.pairwise_lt_range) fun x => ?_
    · rw [List.pairwise_map]
      refine (List.Pairwise.filter _ hs.1.2).imp_of_mem fun {a b} ha hb h => ?_
      have h1 := (List.mem_filter.1 ha).1
      have h2 := (hs.1.1 a h1).1
      omega
    · simp only [List.mem_map, List.mem_filter, List.mem_range, decide_eq_true_eq, Bool.and_eq_true, ofG]
      constructor
      · rintro ⟨y, ⟨hy, h1⟩, rfl⟩
        have h2 := hs.1.1 y hy
        refine ⟨by omega, by omega, ?_⟩
        rw [Int.toNat_of_nonneg h2.1]; exact hy
      · rintro ⟨h1, h2, h3⟩
        exact ⟨(x : Int), ⟨h3, by omega⟩, by simp⟩
  rw [← e, List.map_map]
  rfl

set_option maxRecDepth 100000 in
set_option maxHeartbeats 4000000 in
theorem edgesC_any (v : Value) (g : List (List Int)) (hok : GOk g) (w : World) (hg : Gr w v g) :
    Calls Tryd.prog 64 #[v] w fun e w' => ∃ u : Value, e = .returned u ∧ PrsO w' w.heap.size u (edN g.length (ofG g) g.length) ∧ Below w.heap.size w w' := by
  have hg0 := hg
  obtain ⟨u, rfl, hr⟩ := hg
  obtain ⟨p, c, rfl, _⟩ := hr.shape
  have h16 := hok.le
  have hbA := below_alloc w (.cells #[.slice p g.length c] 28)
  have HB := Lib.hid hbA
  have H2 := Lib.hid (gOk_row_le hok)
  have HOK := Lib.hid hok
  have HR := Lib.hid hr
  have HC : Hid (∀ k, k ≤ g.length → (edN g.length (ofG g) k).length ≤ 256) := Lib.hid fun k hk => by
    have := edN_length g.length (ofG g) k
    have : k * g.length ≤ 16 * 16 := Nat.mul_le_mul (by omega) h16
    omega
  clear hr hg0 hbA hok
  go_enter Tryd.func64, Tryd.ntmps64
  go_wp2
  go_loopw [3, 12] (fun u i wr => ∃ k : Nat, k ≤ g.length ∧ i = .int .i64 k ∧ PrsO wr (w.heap.size + 1) u (edN g.length (ofG g) k) ∧ Below w.heap.size w wr)
    (fun _ i _ => g.length - (intOf i).toNat)
  case atStart => exact ⟨0, Nat.zero_le _, rfl, by have := PrsO.nil (w.alloc (.cells #[.slice p g.length c] 28)) (w.heap.size + 1) (by rw [size_alloc]; omega); rw [size_alloc] at this; exact this, HB.out.alloc HB.out.size _⟩
  case round =>
    obtain ⟨k, hk, rfl, hown, hbel⟩ := hrel
    obtain ⟨outp, outc, rfl⟩ := hown.shape
    have Hown := Lib.hid hown
    have hsz := hbel.size
    clear hown
    by_cases hlt : k < g.length
    · obtain ⟨b, o, rp, rc, rfl, hcell, hnums⟩ := (HR.out.below hbel).get hlt
      change wr.cell? _ = some (.slice rp (row g k).length rc) at hcell
      have Hnums2 : Hid (Nums wr 2 .i64 (.slice rp (row g k).length rc) (row g k)) := Lib.hid hnums
      have hlen2 := H2.out k hlt
      have hck := HC.out k hk
      have HEND := Lib.hid (edT_end HOK.out hlt)
      clear hnums
      go_wp2
      have START : Hid (PrsO wr (w.heap.size + 1) (.slice outp (edN g.length (ofG g) k).length outc) (edN g.length (ofG g) k ++ edT g k 0)) := Lib.hid (by
        have : edT g k 0 = [] := by simp [edT]
        rw [this, List.append_nil]; exact Hown.out)
      have HBEL := Lib.hid hbel
      go_loopw [3, 19] (fun u i wx => ∃ t : Nat, t ≤ (row g k).length ∧ i = .int .i64 t ∧ PrsO wx (w.heap.size + 1) u (edN g.length (ofG g) k ++ edT g k t) ∧ Below w.heap.size w wx ∧ Nums wx 2 .i64 (.slice rp (row g k).length rc) (row g k))
        (fun _ i _ => (row g k).length - (intOf i).toNat)
      case atStart => exact ⟨0, Nat.zero_le _, rfl, START.out, HBEL.out, Hnums2.out⟩
      case round =>
        clear START Hown hbel HBEL hsz hcell Hnums2
        obtain ⟨t, ht, rfl, hown, hbel, hnums⟩ := hrel
        have hsz := hbel.size
        obtain ⟨outp, outc, rfl⟩ := hown.shape
        have Hnums := Lib.hid hnums
        have hte := edT_len g k t
        by_cases hlt2 : t < (row g k).length
        · obtain ⟨rb, ro, rfl, hcx⟩ := hnums.get hlt2
          have hsucc := Lib.hid (edT_succ (g := g) (k := k) hlt2)
          have hX0 := Lib.hid (((HOK.out.sets k hlt).1.1 _ (List.getElem_mem hlt2)).1)
          by_cases hgt : (k : Int) < (row g k)[t]
          · generalize (row g k)[t] = X at hcx hgt hsucc hX0
            obtain ⟨vals, hv1, hv2, hv3⟩ := hown
            have hll : (edN g.length (ofG g) k ++ edT g k t).length < 1000000000 := by rw [List.length_append]; omega
            have HV3 := Lib.hid hv3
            have HV1 := Lib.hid hv1
            clear hnums hv3 hv1 hte
            generalize hq : (edN g.length (ofG g) k ++ edT g k t).length = q at hll hv2
            go_wp2_with (at_builtin; refine wpList_app1s ty_rows64 rfl rfl rfl (hv2.alloc (.cells #[.int .i64 k, .int .i64 X] 2)) (by rw [size_alloc]; rfl) rfl hll (by rw [size_alloc]; omega) ?_; intro b7 c8 w7 hown7 hg7 _)
            go_roundw
            case rel =>
              have ha := below_alloc wr (.cells #[.int .i64 k, .int .i64 X] 2)
              have hrow : Nums (wr.alloc (.cells #[.int .i64 k, .int .i64 X] 2)) 2 .i64 (.slice (some ⟨wr.heap.size, 0, none⟩) 2 2) [((k : Nat) : Int), ((X.toNat : Nat) : Int)] := by
                rw [Int.toNat_of_nonneg hX0.out]
                exact Nums.of_owns (World.ownsRow_lit (size := 1) wr #[.int .i64 k, .int .i64 X] 2 (Nat.le_refl wr.heap.size) (by decide) rfl) rfl (by decide)
              subst hq
              refine ⟨t + 1, by omega, by go_num, ?_, below_grown (hbel.alloc hsz _) (hv2.alloc _) hg7 (by omega) (by rw [size_alloc]; omega), (Hnums.out.below ha).other (hv2.alloc _) hg7 (by decide)⟩
              rw [hsucc.out, if_pos hgt, ← List.append_assoc]
              exact PrsO.snoc (e := (k, X.toNat)) HV1.out (hv2.alloc _) (fun j hj => (HV3.out j hj).below ha) hown7 hg7 hrow
            case measure => simp [intOf]; omega
          · have Hown := Lib.hid hown
            generalize (row g k)[t] = X at hcx hgt hsucc hX0
            clear hown hnums
            go_wp2
            go_roundw
            case rel => exact ⟨t + 1, by omega, by go_num, by rw [hsucc.out, if_neg hgt]; exact Hown.out, hbel, Hnums.out⟩
            case measure => simp [intOf]; omega
        · obtain rfl : t = (row g k).length := by omega
          have Hown := Lib.hid hown
          clear hown hnums
          go_wp2
          go_roundw
          case rel =>
            refine ⟨k + 1, by omega, by go_num, ?_, hbel⟩
            rw [edN_succ, ← HEND.out]
            exact Hown.out
          case measure => simp [intOf]; omega
    · obtain rfl : k = g.length := by omega
      go_wp2
      go_ret
      exact ⟨_, rfl, Hown.out.base (by omega), hbel⟩

end Go.Proofs.YtiooindlpinjhaaDoor
