/- What the laws of several arguments use: arguments of bounded size, what stands after some copies, boxes. -/
import Derived.Test.YtmakhapdlkbbnaaDoorMnQ26
import Derived.Test.YtmakhapdlkbbnaaDoorMnQ27
import Derived.Test.YtmakhapdlkbbnaaDoorMnQ30
import Derived.Test.YtmakhapdlkbbnaaDoorMnQ21
import Derived.Test.YtmakhapdlkbbnaaDoorMnQ22
import Derived.Test.YtmakhapdlkbbnaaDoorMnQ24
import Derived.Test.YtmakhapdlkbbnaaDoorMnQ7
namespace Go.Proofs.YtmakhapdlkbbnaaDoor
open Go.RowKit

def SzG (g : List (List Int)) : Prop := g.length ≤ 1048576 ∧ ∀ j, j < g.length → (row g j).length ≤ 1048576
theorem OwnG.gr' {w : World} {base : Nat} {v : Value} {g : List (List Int)} (h : OwnG w base v g) (hs : SzG g) : Gr w v g :=
  h.gr (by have := hs.1; omega) fun j hj => by have := hs.2 j hj; omega
/-- What stands after some of the copies. -/
structure StM (W2 w' : World) (ys : List (Value × List (List Int))) : Prop where
  bel : Below W2.heap.size W2 w'
  own : ∀ y ∈ ys, OwnG w' W2.heap.size y.1 y.2
theorem StM.next {W2 w' w'' : World} {ys : List (Value × List (List Int))} (h : StM W2 w' ys) (hb : Below w'.heap.size w' w'') : StM W2 w'' ys :=
  ⟨h.bel.trans (hb.mono h.bel.size), fun y hy => (h.own y hy).below hb⟩
theorem StM.add {W2 w' w'' : World} {ys : List (Value × List (List Int))} {u : Value} {g : List (List Int)} (h : StM W2 w' ys) (hb : Below w'.heap.size w' w'') (ho : OwnG w'' w'.heap.size u g) : StM W2 w'' ((u, g) :: ys) :=
  ⟨(h.next hb).bel, fun y hy => by
    rcases List.mem_cons.1 hy with rfl | h1
    · exact ho.lower h.bel.size
    · exact (h.next hb).own y h1⟩
theorem two_boxesM (w : World) (a b : Value) (T1 T2 : TypeId) : ∃ W, W = (w.alloc (.cells #[a] T1)).alloc (.cells #[b] T2) ∧ Below w.heap.size w W ∧ W.heap.size = w.heap.size + 2 ∧ Box W w.heap.size T1 a ∧ Box W (w.heap.size + 1) T2 b := by
  have h2 := Box.new (w.alloc (.cells #[a] T1)) b T2
  rw [size_alloc] at h2
  exact ⟨_, rfl, below_alloc2 _ _ _, by rw [size_alloc, size_alloc], (Box.new w a T1).alloc _, h2⟩

end Go.Proofs.YtmakhapdlkbbnaaDoor

/- Walk: the program's ModelWord of a model whose sets are a word's. -/
namespace Go.Proofs.YtmakhapdlkbbnaaDoor
open Go.RowKit

theorem sl_setOwn {w : World} {E E' : TypeId} {v : Value} {n m b i c base size : Nat} {vals ys : List Value} (h : Sl w E v n vals) (ho : w.ownsRow base E' size (.slice (some ⟨b, 0, none⟩) m c) m ys) (hE : E ≠ E') (u : Value) : Sl (w.setCell ⟨b, i, none⟩ u) E v n vals :=
  h.other ho (grown_setMs w b i u) hE

set_option maxRecDepth 100000 in
set_option maxHeartbeats 4000000 in
theorem implModelWord_word (v mv : Value) (g : List (List Int)) (m : Nat) (wd : List Nat) (hM : MdW g (setsW m wd)) (hwl : wd.length = g.length) (hle : ∀ x ∈ wd, x ≤ m) (w : World) (hg : Gr w v g) (hm : Gr w mv (setsW m wd)) (hT : Tab w) :
    Calls Tryd.prog 50 #[v, mv] w fun e w' => ∃ u, e = .returned (.tuple #[u, .bool true]) ∧ w'.ownsRow w.heap.size 2 1 u g.length ((natInts wd).map (Value.int .i64)) ∧ Below w.heap.size w w' := by
  have hg0 := Lib.hid hg
  have hm0 := Lib.hid hm
  obtain ⟨_, rfl, hr⟩ := hg
  obtain ⟨ga, gc, rfl, _⟩ := hr.shape
  obtain ⟨_, rfl, hr2⟩ := hm
  obtain ⟨ma, mc, emv, _⟩ := hr2.shape
  rw [setsW_length] at emv
  subst emv
  obtain ⟨W0, hW0, hbA, SZ0, B0, B1⟩ := two_boxesM w (.slice ga g.length gc) (.slice ma m mc) 29 54
  have HBA := Lib.hid hbA
  have HT := Lib.hid (hT.keep hbA)
  have HG := Lib.hid (hg0.out.below hbA)
  have HM := Lib.hid (hm0.out.below hbA)
  have HX0 := Lib.hid B0
  have HX1 := Lib.hid B1
  have g16 := hM.1.1.le
  have m16 : m ≤ 16 := by have := hM.1.2; rwa [setsW_length] at this
  have HMD := Lib.hid hM
  have HDT := Lib.hid (dec_true hM)
  have HWL := Lib.hid hwl
  have HLE := Lib.hid hle
  clear hT hr hr2 hg0 hm0 hbA SZ0 B0 B1 hM hwl hle
  go_enter Tryd.func50, Tryd.ntmps50
  go_upto_region 1 with fail
  rw [← hW0]
  clear hW0
  have c0 := HX0.out.cell
  have c1 := HX1.out.cell
  go_upto_region 5 with (first
    | (go_at_call 129; refine (modelMasks_any _ _ g (setsW m wd) (by omega) _ HG.out HM.out).mono ?_; rintro e w2 ⟨ov, he, ⟨op, oq, oc, rfl⟩, ho2, hb2⟩; rw [HDT.out] at he; subst he; have ho3 := ho2 HMD.out; rw [setsW_length, map_mask_setsW] at ho3; have e2 : oq = m := (by obtain ⟨p1, c1, e1⟩ := owns_shapeE ho3; cases e1; rfl); subst e2; have HO2 := Lib.hid (Sl.of_owns ho3 (by omega)); have HB2 := Lib.hid hb2; have k0 := (HX0.out.keep hb2).cell; clear ho2 ho3 hb2)
    | (at_make; refine wpList_mk ty_i64 rfl rfl rfl g.length rfl rfl (by rfl) (by rfl) (by omega) ?_; intro w4 hown4 hg4))
  obtain ⟨ob, hob⟩ : ∃ ob, ob = w2.heap.size := ⟨_, rfl⟩
  have hb4 := grown_below hg4
  have HS4 := Lib.hid (HO2.out.below hb4)
  have HB4 := Lib.hid hb4
  have hst : w4.ownsRow ob 2 1 (.slice (some ⟨ob, 0, none⟩) g.length g.length) g.length ((natInts (List.replicate wd.length 0)).map (Value.int .i64)) := by
    rw [hob, HWL.out]
    simpa [natInts] using hown4
  have HST := Lib.hid hst
  rw [← hob]
  have HOB := Lib.hid hob
  clear hb4 hg4 hown4 hst hob c0 c1 k0
  go_wp2_with fail
  go_loopw [27] (fun iv wr => ∃ (i : Nat) (F : List Nat), i ≤ oq ∧ iv = .int .i64 i ∧ Hid (WdI wd i [] F) ∧ wr.ownsRow ob 2 1 (.slice (some ⟨ob, 0, none⟩) g.length g.length) g.length ((natInts F).map (Value.int .i64)) ∧ Sl wr 79 (.slice op oq oc) oq ((mskW oq wd).map u32v) ∧ Below w2.heap.size w2 wr) (fun iv _ => oq - (intOf iv).toNat)
  case atStart => exact ⟨0, _, Nat.zero_le _, rfl, Lib.hid (WdI.start wd), HST.out, HS4.out, HB4.out⟩
  case round =>
    clear HST HS4
    obtain ⟨i, F, hi, rfl, HW, hown, hsl, hb⟩ := hrel
    have HO := Lib.hid hown
    have HSL := Lib.hid hsl
    have HB := Lib.hid hb
    by_cases hlt : i < oq
    · have hml := mskW_length oq wd
      obtain ⟨qb, qo, eq, hq⟩ := sl_cell hsl (j := i) (u := .int .u32 ((mskW oq wd).getD i 0 : Nat)) (by simp [u32v, hml, hlt, List.getD_eq_getElem?_getD])
      subst eq
      obtain ⟨s, hs⟩ : ∃ s, s = (mskW oq wd).getD i 0 := ⟨_, rfl⟩
      rw [← hs] at hq
      have hs16 : s < 65536 := by rw [hs]; exact mskW_lt16 (by rw [HWL.out]; exact g16)
      have hbs : bitsOf s = setW wd i := by rw [hs]; exact bits_mskW wd (by rw [HWL.out]; exact g16) hlt
      have hlen := bitsOf_length s
      rw [hbs] at hlen
      have HBS := Lib.hid hbs
      have HTR := Lib.hid ((HT.out.keep HB2.out).keep hb)
      have hwi : IntKind.i64.wrap ((i : Int) + 1) = (i : Int) + 1 := by rw [IntKind.wrap_i64]; omega
      clear hml hs hbs hown hsl hb
      go_upto_region 9 with (go_at_call 130; refine (list_any _ s rfl (by omega) _ HTR.out).mono ?_; rintro e w5 ⟨lv, rfl, hown5, hb5⟩; rw [HBS.out] at hown5; have hnl := Nums.of_owns hown5 (natInts_length _).symm (by omega); obtain ⟨lp, lc, e5⟩ := owns_shapeE hown5; subst e5; have HN5 := Lib.hid hnl; have HO5 := Lib.hid (ownsRow_below HO.out hb5); have HSL5 := Lib.hid (HSL.out.below hb5); have HB5 := Lib.hid (HB.out.trans (hb5.mono HB.out.size)); clear hown5 hb5 hnl)
      obtain ⟨L, hL⟩ : ∃ L, L = setW wd i := ⟨_, rfl⟩
      rw [← hL] at HN5 hlen ⊢
      have HL := Lib.hid hL
      clear hL hq
      go_wp2_with fail
      go_loopw [35] (fun kv wr => ∃ (k : Nat) (F : List Nat), k ≤ L.length ∧ kv = .int .i64 k ∧ Hid (WdI wd i (L.take k) F) ∧ wr.ownsRow ob 2 1 (.slice (some ⟨ob, 0, none⟩) g.length g.length) g.length ((natInts F).map (Value.int .i64)) ∧ Sl wr 79 (.slice (some ⟨qb, qo, none⟩) oq oc) oq ((mskW oq wd).map u32v) ∧ Nums wr 3 .i64 (.slice lp L.length lc) (natInts L) ∧ Below w2.heap.size w2 wr) (fun kv _ => L.length - (intOf kv).toNat)
      case atStart => exact ⟨0, F, Nat.zero_le _, rfl, Lib.hid (by rw [List.take_zero]; exact HW.out), HO5.out, HSL5.out, HN5.out, HB5.out⟩
      case round =>
        clear HW HO HSL HB HO5 HSL5 HN5 HB5
        obtain ⟨k, F, hk, rfl, HW, hown, hsl, hnl, hb⟩ := hrel
        have HO := Lib.hid hown
        have HSL := Lib.hid hsl
        have HNL := Lib.hid hnl
        have HB := Lib.hid hb
        by_cases hlk : k < L.length
        · obtain ⟨x, hx⟩ : ∃ x : Nat, x = L[k] := ⟨_, rfl⟩
          have hxm : x ∈ setW wd i := by rw [← HL.out, hx]; exact List.getElem_mem hlk
          have hxn : x < g.length := by have := (mem_setW.1 hxm).1; have := HWL.out; omega
          obtain ⟨lb, lo, rfl, hcl⟩ := hnl.get (k := k) (by rw [natInts_length]; exact hlk)
          have hval : (natInts L)[k]'(by rw [natInts_length]; exact hlk) = (x : Int) := by rw [hx]; simp [natInts]
          rw [hval] at hcl
          have hfz := hown.frozenAt x
          have hfl : x < F.length := by have := HW.out.len; have := HWL.out; omega
          obtain ⟨z, hz⟩ : ∃ z, z = F.getD x 0 := ⟨_, rfl⟩
          have hxc : wr.cell? ⟨ob, x, none⟩ = some (.int .i64 (z : Int)) := by rw [hown.cellAt x (by omega), hz]; simp [natInts, List.getD_eq_getElem?_getD, hfl]
          have HW2 : Hid (WdI wd i (L.take (k + 1)) (F.set x (i + 1))) := Lib.hid (by rw [take_snoc' L k hlk, ← hx]; exact HW.out.put hxm)
          have hx1 : (x : Int) < (g.length : Int) := by omega
          have HOX : Hid ((wr.setCell ⟨ob, x, none⟩ (.int .i64 ((i : Int) + 1))).ownsRow ob 2 1 (.slice (some ⟨ob, 0, none⟩) g.length g.length) g.length ((natInts (F.set x (i + 1))).map (Value.int .i64))) := Lib.hid (by
            have h := (HO.out.stored x (.int .i64 ((i : Int) + 1))).1
            rw [show (natInts (F.set x (i + 1))).map (Value.int .i64) = ((natInts F).map (Value.int .i64)).set x (.int .i64 ((i : Int) + 1)) from by simp [natInts, List.map_set]]
            exact h)
          have HSX := Lib.hid (sl_setOwn (i := x) HSL.out HO.out (by decide) (.int .i64 ((i : Int) + 1)))
          have HNX : Hid (Nums (wr.setCell ⟨ob, x, none⟩ (.int .i64 ((i : Int) + 1))) 3 .i64 (.slice (some ⟨lb, lo, none⟩) L.length lc) (natInts L)) := Lib.hid (sl_setOwn (i := x) HNL.out HO.out (by decide) (.int .i64 ((i : Int) + 1)))
          have HBX : Hid (Below w2.heap.size w2 (wr.setCell ⟨ob, x, none⟩ (.int .i64 ((i : Int) + 1)))) := Lib.hid (HB.out.setCell (p := ⟨ob, x, none⟩) (show w2.heap.size ≤ ob by have := HOB.out; omega) _)
          clear hval hx hxm hown hsl hnl hb hfl hz
          go_wp2_with fail
          go_roundw
          case rel => exact ⟨k + 1, _, by omega, by go_num, HW2, HOX.out, HSX.out, HNX.out, HBX.out⟩
          case measure => simp [intOf]; omega
        · obtain rfl : k = L.length := by omega
          have HW2 : Hid (WdI wd (i + 1) [] F) := Lib.hid (by have h := HW.out; rw [List.take_length, HL.out] at h; exact h.next)
          clear hown hsl hnl hb
          go_wp2_with fail
          go_roundw
          case rel => exact ⟨i + 1, F, by omega, by go_num, HW2, HO.out, HSL.out, HB.out⟩
          case measure => simp [intOf]; omega
    · obtain rfl : i = oq := by omega
      have HF := Lib.hid (HW.out.all HLE.out)
      rw [HF.out] at HO
      have h1 := HBA.out.size
      have h2 := HB2.out.size
      clear hown hsl hb
      go_wp2_with fail
      go_ret2
      exact ⟨_, rfl, ownsRow_base HO.out (by have := HOB.out; omega), HBA.out.trans ((HB2.out.trans (HB.out.mono h2)).mono h1)⟩

end Go.Proofs.YtmakhapdlkbbnaaDoor

/- Walk: the program's MinorIn (printed by wip/mkMiM.py). -/
namespace Go.Proofs.YtmakhapdlkbbnaaDoor
open Go.RowKit

theorem DG.setMi {w : World} {base b : Nat} {v x : Value} {g : List (List Int)} (h : DG w base v g) (hb : Box w b 54 x) (u : Value) : DG (w.setCell ⟨b, 0, none⟩ u) base v g := by
  obtain ⟨u0, vals, h1, h2, h3, h4⟩ := h
  exact ⟨u0, vals, h1, h2, ownsRow_setBox h3 hb (by decide) _, ⟨fun j hj => ownsRow_setBox (h4.rows j hj) hb (by decide) _, h4.dis⟩⟩
theorem dg_nilMi (w : World) (base : Nat) : DG w base (.agg #[.slice none 0 0]) [] := ⟨_, [], rfl, rfl, World.ownsRow_nil _ _ _ _, ⟨fun j hj => by simp at hj, fun i j hi => by simp at hi⟩⟩
theorem ofG_comm {g : List (List Int)} (hg : GOk g) (i k : Nat) : ofG g i k = ofG g k i := by
  rw [Bool.eq_iff_iff]
  exact ⟨ofG_sym hg i k, ofG_sym hg k i⟩
theorem ofG_to {g : List (List Int)} (hg : GOk g) (x y : Nat) (h : ofG g x y = true) : y < g.length := by
  simp only [ofG, decide_eq_true_eq] at h
  by_cases hx : x < g.length
  · have := (hg.sets x hx).1.1 _ h
    omega
  · have : row g x = [] := by simp [row, List.getElem?_eq_none (show g.length ≤ x by omega)]
    rw [this] at h
    simp at h
theorem rowsOf_mskW {m : Nat} {w : List Nat} (h : w.length ≤ 16) : rowsOf (mskW m w) = setsW m w := by
  unfold rowsOf setsW
  rw [mskW, List.map_map]
  refine List.map_congr_left fun k hk => ?_
  have hk := List.mem_range.1 hk
  have := bits_mskW w h hk
  rw [mskW_at w hk] at this
  simp [this]
theorem row_setsW_leI {m j : Nat} {w : List Nat} (h : w.length ≤ 16) : (row (setsW m w) j).length ≤ 16 := by
  by_cases e : j < m
  · rw [row_setsW e, natInts_length]
    refine Nat.le_trans ?_ h
    have := List.length_filter_le (fun v => w.getD v 0 == j + 1) (List.range w.length)
    rw [List.length_range] at this
    exact this
  · have : row (setsW m w) j = [] := by simp [row, setsW, List.getElem?_eq_none (show ((List.range m).map fun k => natInts (setW w k)).length ≤ j by simp; omega)]
    rw [this]; exact Nat.zero_le _

theorem MnEnd.lower {w0 w1 w' : World} {m : Nat} {u : Value} {f : Option (List Nat)} (h : MnEnd w1 w' m u f) (hb : w0.heap.size ≤ w1.heap.size) : MnEnd w0 w' m u f := by
  rcases h with h | ⟨x, b, h1, h2, h3⟩
  · exact .inl h
  · exact .inr ⟨x, b, h1, h2, ownsRow_base h3 hb⟩
set_option maxRecDepth 100000 in
set_option maxHeartbeats 4000000 in
theorem implMinorIn_any (v pv : Value) (g p : List (List Int)) (w : World) (hg : Gr w v g) (hp : Gr w pv p) (hT : Tab w) :
    Calls Tryd.prog 44 #[v, pv] w fun e w' => ∃ (u : Value) (R : List (List Int)) (ok : Bool), e = .returned (.tuple #[u, .bool ok]) ∧ MiS g p R ok ∧ DG w' w.heap.size u R ∧ R.length ≤ 16 ∧ (∀ j, (row R j).length ≤ 16) ∧ Below w.heap.size w w' := by
  have hg0 := Lib.hid hg
  have hp0 := Lib.hid hp
  obtain ⟨_, rfl, hr⟩ := hg
  obtain ⟨ga, gc, rfl, _⟩ := hr.shape
  obtain ⟨_, rfl, hr2⟩ := hp
  obtain ⟨pa, pc, rfl, _⟩ := hr2.shape
  obtain ⟨W0, hW0, hbA, SZ0, B0, B1, B2⟩ := three_boxesM w (.slice ga g.length gc) (.slice pa p.length pc) (.slice none 0 0) 29 29 54
  have HBA := Lib.hid hbA
  have HT := Lib.hid (hT.keep hbA)
  have HG := Lib.hid (hg0.out.below hbA)
  have HP := Lib.hid (hp0.out.below hbA)
  have HX0 := Lib.hid B0
  have HX1 := Lib.hid B1
  have HX2 := Lib.hid B2
  have HSZ := Lib.hid SZ0
  clear hT hr hr2 hg0 hp0 hbA SZ0 B0 B1 B2
  by_cases hok : GOk g
  case neg =>
    have HC := Lib.hid (show MiS g p [] false from .inr ⟨fun h => hok (by have := h.1; first | exact this.1 | exact this.2.1 | exact this.2.2.1 | exact this.2.2.2), rfl, rfl⟩)
    have HD := Lib.hid (dec_false hok)
    clear hok
    go_enter Tryd.func44, Tryd.ntmps44
    go_upto_region 1 with fail
    rw [← hW0]
    clear hW0
    have c0 := HX0.out.cell
    go_wp2_with (first
      | (go_at_call 80; refine (implGraphOk_any _ g _ HG.out).mono ?_; rintro e w2 ⟨he, hb2⟩; rw [HD.out] at he; subst he; obtain ⟨nc, nf, nl, nB⟩ := HX2.out.keep hb2))
    refine bodyPost_ret (v := .tuple #[.agg #[.slice none 0 0], .bool false]) (by simp [results, Tryd.results44, go_sem, nc]) rfl ⟨_, [], false, rfl, HC.out, dg_nilMi _ _, by simp, fun j => by simp [row], ?_⟩
    exact ((HBA.out.trans (hb2.mono HBA.out.size))).setCell (by show w.heap.size ≤ w.heap.size + 2; omega) _
  have HD := Lib.hid (dec_true hok)
  by_cases hok2 : GOk p
  case neg =>
    have HC := Lib.hid (show MiS g p [] false from .inr ⟨fun h => hok2 (by have := h.1; first | exact this.1 | exact this.2.1 | exact this.2.2.1 | exact this.2.2.2), rfl, rfl⟩)
    have HD2 := Lib.hid (dec_false hok2)
    clear hok2
    go_enter Tryd.func44, Tryd.ntmps44
    go_upto_region 1 with fail
    rw [← hW0]
    clear hW0
    have c0 := HX0.out.cell
    go_wp2_with (first
      | (go_at_call 80; refine (implGraphOk_any _ p _ (HP.out.below hb2)).mono ?_; rintro e w3 ⟨he, hb3⟩; rw [HD2.out] at he; subst he; obtain ⟨nc, nf, nl, nB⟩ := (HX2.out.keep hb2).keep hb3)
      | (go_at_call 80; refine (implGraphOk_any _ g _ HG.out).mono ?_; rintro e w2 ⟨he, hb2⟩; rw [HD.out] at he; subst he; have c1 := (HX1.out.keep hb2).cell))
    refine bodyPost_ret (v := .tuple #[.agg #[.slice none 0 0], .bool false]) (by simp [results, Tryd.results44, go_sem, nc]) rfl ⟨_, [], false, rfl, HC.out, dg_nilMi _ _, by simp, fun j => by simp [row], ?_⟩
    exact (((HBA.out.trans (hb2.mono HBA.out.size)).trans (hb3.mono (Nat.le_trans HBA.out.size hb2.size)))).setCell (by show w.heap.size ≤ w.heap.size + 2; omega) _
  have HD2 := Lib.hid (dec_true hok2)
  have HOK := Lib.hid hok
  have HOK2 := Lib.hid hok2
  clear hok hok2
  by_cases h8 : g.length ≤ 8
  case neg =>
    have HC := Lib.hid (show MiS g p [] false from .inr ⟨fun h => h8 (by have := h.1; first | exact this.1 | exact this.2.1 | exact this.2.2.1 | exact this.2.2.2), rfl, rfl⟩)
    have hgt : (8 : Int) < (g.length : Int) := by omega
    clear h8
    go_enter Tryd.func44, Tryd.ntmps44
    go_upto_region 1 with fail
    rw [← hW0]
    clear hW0
    have c0 := HX0.out.cell
    go_wp2_with (first
      | (go_at_call 80; refine (implGraphOk_any _ p _ (HP.out.below hb2)).mono ?_; rintro e w3 ⟨he, hb3⟩; rw [HD2.out] at he; subst he; have k0 := ((HX0.out.keep hb2).keep hb3).cell; obtain ⟨nc, nf, nl, nB⟩ := (HX2.out.keep hb2).keep hb3)
      | (go_at_call 80; refine (implGraphOk_any _ g _ HG.out).mono ?_; rintro e w2 ⟨he, hb2⟩; rw [HD.out] at he; subst he; have c1 := (HX1.out.keep hb2).cell))
    refine bodyPost_ret (v := .tuple #[.agg #[.slice none 0 0], .bool false]) (by simp [results, Tryd.results44, go_sem, nc]) rfl ⟨_, [], false, rfl, HC.out, dg_nilMi _ _, by simp, fun j => by simp [row], ?_⟩
    exact (((HBA.out.trans (hb2.mono HBA.out.size)).trans (hb3.mono (Nat.le_trans HBA.out.size hb2.size)))).setCell (by show w.heap.size ≤ w.heap.size + 2; omega) _
  have hgt : ¬ (8 : Int) < (g.length : Int) := by omega
  by_cases h5 : p.length ≤ 5
  case neg =>
    have HC := Lib.hid (show MiS g p [] false from .inr ⟨fun h => h5 (by have := h.1; first | exact this.1 | exact this.2.1 | exact this.2.2.1 | exact this.2.2.2), rfl, rfl⟩)
    have hgt5 : (5 : Int) < (p.length : Int) := by omega
    clear h5
    go_enter Tryd.func44, Tryd.ntmps44
    go_upto_region 1 with fail
    rw [← hW0]
    clear hW0
    have c0 := HX0.out.cell
    go_wp2_with (first
      | (go_at_call 80; refine (implGraphOk_any _ p _ (HP.out.below hb2)).mono ?_; rintro e w3 ⟨he, hb3⟩; rw [HD2.out] at he; subst he; have k0 := ((HX0.out.keep hb2).keep hb3).cell; have k1 := ((HX1.out.keep hb2).keep hb3).cell; obtain ⟨nc, nf, nl, nB⟩ := (HX2.out.keep hb2).keep hb3)
      | (go_at_call 80; refine (implGraphOk_any _ g _ HG.out).mono ?_; rintro e w2 ⟨he, hb2⟩; rw [HD.out] at he; subst he; have c1 := (HX1.out.keep hb2).cell))
    refine bodyPost_ret (v := .tuple #[.agg #[.slice none 0 0], .bool false]) (by simp [results, Tryd.results44, go_sem, nc]) rfl ⟨_, [], false, rfl, HC.out, dg_nilMi _ _, by simp, fun j => by simp [row], ?_⟩
    exact (((HBA.out.trans (hb2.mono HBA.out.size)).trans (hb3.mono (Nat.le_trans HBA.out.size hb2.size)))).setCell (by show w.heap.size ≤ w.heap.size + 2; omega) _
  have hgt5 : ¬ (5 : Int) < (p.length : Int) := by omega
  go_enter Tryd.func44, Tryd.ntmps44
  go_upto_region 1 with fail
  rw [← hW0]
  clear hW0
  have c0 := HX0.out.cell
  go_upto_region 3 with (first
      | (go_at_call 80; refine (implGraphOk_any _ p _ (HP.out.below hb2)).mono ?_; rintro e w3 ⟨he, hb3⟩; rw [HD2.out] at he; subst he; have k0 := ((HX0.out.keep hb2).keep hb3).cell; have k1 := ((HX1.out.keep hb2).keep hb3).cell)
      | (go_at_call 80; refine (implGraphOk_any _ g _ HG.out).mono ?_; rintro e w2 ⟨he, hb2⟩; rw [HD.out] at he; subst he; have c1 := (HX1.out.keep hb2).cell))
  have HB3 : Hid (Below W0.heap.size W0 w3) := Lib.hid (hb2.trans (hb3.mono hb2.size))
  have HT3 := Lib.hid (HT.out.keep HB3.out)
  have HG3 := Lib.hid (HG.out.below HB3.out)
  have HP3 := Lib.hid (HP.out.below HB3.out)
  have g16 := HOK.out.le
  have p16 := HOK2.out.le
  clear hb2 hb3 c0 c1 hgt hgt5
  go_cut [6] (fun s6 wx => MnEnd w3 wx p.length s6 (findN p.length (FitW p.length (ofG g) (ofG p)) g.length []) ∧ Below w3.heap.size w3 wx)
  case first =>
    go_region_held3 (fun W => W.cell? ⟨w.heap.size, 0, none⟩ = some (.slice ga g.length gc) ∧ W.cell? ⟨w.heap.size + 1, 0, none⟩ = some (.slice pa p.length pc))
      (first | exact ⟨k0, k1⟩ | go_keep | exact ⟨BWC.at' k0, BWC.at' k1⟩ | exact ⟨BWB.at' k0, BWB.at' k1⟩ | exact ⟨BWA.at' k0, BWA.at' k1⟩)
      (first
        | (go_at_call 125; refine (minorIn_any _ _ g.length p.length (ofG g) (ofG p) h8 (by omega) (ofG_sym HOK.out) (ofG_to HOK.out) (ofG_comm HOK2.out) (ofG_irr HOK2.out) _ (HNA.out.next hb5x) HNB.out (HT3.out.keep BWB)).mono ?_; rintro e w6 ⟨u6, rfl, hend, hb6⟩; have HEND := Lib.hid (hend.lower BWB.size); have BWC : Below w3.heap.size w3 w6 := BWB.trans (hb6.mono BWB.size); clear hend)
        | (go_at_call 82; have BWA2 := BWA; clear BWA2; refine (netsOf_any _ p _ (HP3.out.below (by first | exact BWA | exact BWA.trans (below_dN (Below.refl _ _) 1))) HOK2.out).mono ?_; rintro e w5 ⟨x5, rfl, hown5, hb5⟩; have HNB : Hid (NE w5 x5 p.length (ofG p)) := Lib.hid ⟨p16, by rw [indN_ofG HOK2.out]; exact Sl.of_owns hown5 (by omega)⟩; have hb5x : Below w4.heap.size w4 w5 := (by first | exact hb5 | exact (below_dN (Below.refl _ _) 1).trans hb5); have BWB : Below w3.heap.size w3 w5 := BWA.trans (hb5x.mono BWA.size); clear hown5)
        | (go_at_call 82; refine (netsOf_any _ g _ (HG3.out.below (below_dN (Below.refl _ _) 1)) HOK.out).mono ?_; rintro e w4 ⟨x4, rfl, hown4, hb4⟩; have HNA : Hid (NE w4 x4 g.length (ofG g)) := Lib.hid ⟨g16, by rw [indN_ofG HOK.out]; exact Sl.of_owns hown4 (by omega)⟩; have BWA : Below w3.heap.size w3 w4 := (below_dN (Below.refl _ _) 1).trans hb4; clear hown4))
    all_goals go_wp2
    all_goals go_meet
    all_goals exact ⟨HEND.out, BWC⟩
  case rest =>
  obtain ⟨hend, hbc⟩ := hcut
  have HB4 : Hid (Below W0.heap.size W0 wc) := Lib.hid (HB3.out.trans (hbc.mono HB3.out.size))
  have s3 := HB3.out.size
  obtain ⟨nc, nf, nl, nB⟩ := HX2.out.keep HB4.out
  clear k0 k1
  rcases hend with ⟨hf, rfl⟩ | ⟨x, b, hf, rfl, hown⟩
  · have HC := Lib.hid (show MiS g p [] false from .inr ⟨fun h => (by obtain ⟨_, y, hy⟩ := h; exact absurd (hf.symm.trans hy) (by simp)), rfl, rfl⟩)
    have hnl : ∀ w, Sem.run Tryd.prog (binOp BinOp.eql 75 (.slice none 0 0) (.slice none 0 0)) w = .ok (.bool true) w := fun w => rfl
    clear hbc hf
    go_wp2_with fail
    refine bodyPost_ret (v := .tuple #[.agg #[.slice none 0 0], .bool false]) (by simp [results, Tryd.results44, go_sem, nc]) rfl ⟨_, [], false, rfl, HC.out, dg_nilMi _ _, by simp, fun j => by simp [row], ?_⟩
    exact (HBA.out.trans (HB4.out.mono HBA.out.size)).setCell (by show w.heap.size ≤ w.heap.size + 2; omega) _
  · have hnl : ∀ w, Sem.run Tryd.prog (binOp BinOp.eql 75 (.slice (some ⟨b, 0, none⟩) p.length p.length) (.slice none 0 0)) w = .ok (.bool false) w := fun w => rfl
    have HC := Lib.hid (show MiS g p (setsW p.length x) true from .inl ⟨⟨HOK.out, HOK2.out, h8, h5⟩, x, hf, rfl, rfl⟩)
    have hxl : Hid (x.length ≤ 16) := Lib.hid (by
      obtain ⟨_, u, e, hu, _⟩ := findN_some _ _ _ hf
      rw [e]; simp; omega)
    have HRO := Lib.hid (rowsOf_mskW (m := p.length) hxl.out)
    have HLT : Hid (∀ s ∈ mskW p.length x, s < 4294967296) := Lib.hid (fun s hs => by
      obtain ⟨j, hj, rfl⟩ := List.getElem_of_mem hs
      have := mskW_lt16 (m := p.length) (k := j) hxl.out
      rw [List.getD_eq_getElem?_getD, List.getElem?_eq_getElem hj] at this
      have e : (mskW p.length x)[j] < 65536 := this
      omega)
    have HAL := Lib.hid (mskW_length p.length x)
    have HSL : Hid (Sl wc 79 (.slice (some ⟨b, 0, none⟩) p.length p.length) (mskW p.length x).length ((mskW p.length x).map u32v)) := Lib.hid (by rw [HAL.out]; exact Sl.of_owns hown (by omega))
    clear hbc hf hown
    go_wp2_with (go_at_call 96; refine (results_any _ (mskW p.length x) HLT.out (by rw [HAL.out]; omega) _ HSL.out (HT.out.keep HB4.out)).mono ?_; rintro e w7 ⟨u7, rfl, hd7, hb7⟩; rw [HRO.out] at hd7; obtain ⟨rp7, rc7, e7⟩ := hd7.shape; cases e7; obtain ⟨mc, mf, ml, mB⟩ := (HX2.out.keep HB4.out).keep hb7)
    have h1 := HBA.out.size
    have h2 := HB4.out.size
    refine bodyPost_ret (v := .tuple #[.agg #[.slice rp7 (setsW p.length x).length rc7], .bool true]) (by simp [results, Tryd.results44, go_sem, mc]) rfl ⟨_, setsW p.length x, true, rfl, HC.out, (hd7.setMi ⟨mc, mf, ml, mB⟩ _).base (by omega), by rw [setsW_length]; omega, fun j => row_setsW_leI hxl.out, ?_⟩
    exact (HBA.out.trans ((HB4.out.trans (hb7.mono h2)).mono h1)).setCell (by show w.heap.size ≤ w.heap.size + 2; omega) _

end Go.Proofs.YtmakhapdlkbbnaaDoor
