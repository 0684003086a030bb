/- Walk: the reference's TrailOf. -/
import Derived.Test.YtjdlmjmhlbpooaaDoorTlQQ17
import Derived.Deep.DeepCutAuto
namespace Go.Proofs.YtjdlmjmhlbpooaaDoor
open Go.RowKit

/-- Two of a row's sets are put, one after the other. -/
theorem i64_two {w : World} {B lb c : Nat} {a : List Nat} (ho : w.ownsRow B 2 1 (.slice (some ⟨lb, 0, none⟩) a.length c) a.length (a.map i64v)) {v u : Nat} (hv : v < a.length) (hu : u < a.length) (huv : v ≠ u) (x y : Nat) :
    w.cell? ⟨lb, v, none⟩ = some (.int .i64 (a.getD v 0 : Nat)) ∧ w.frozen? ⟨lb, v, none⟩ = false ∧
    (w.setCell ⟨lb, v, none⟩ (.int .i64 (x : Int))).cell? ⟨lb, u, none⟩ = some (.int .i64 (a.getD u 0 : Nat)) ∧ (w.setCell ⟨lb, v, none⟩ (.int .i64 (x : Int))).frozen? ⟨lb, u, none⟩ = false ∧
    ((w.setCell ⟨lb, v, none⟩ (.int .i64 (x : Int))).setCell ⟨lb, u, none⟩ (.int .i64 (y : Int))).ownsRow B 2 1 (.slice (some ⟨lb, 0, none⟩) a.length c) a.length (((a.set v x).set u y).map i64v) ∧
    w.grownBy ((w.setCell ⟨lb, v, none⟩ (.int .i64 (x : Int))).setCell ⟨lb, u, none⟩ (.int .i64 (y : Int))) (some lb) := by
  have hc1 := ho.cellAt v (by omega)
  have hf1 := ho.frozenAt v
  obtain ⟨ho2, hg2⟩ := ho.stored v (.int .i64 (x : Int))
  have e1 : (a.map i64v).set v (.int .i64 (x : Int)) = (a.set v x).map i64v := by rw [List.map_set]; rfl
  rw [e1] at ho2
  have hc2 := ho2.cellAt u (by omega)
  have hf2 := ho2.frozenAt u
  obtain ⟨ho3, hg3⟩ := ho2.stored u (.int .i64 (y : Int))
  have e2 : ((a.set v x).map i64v).set u (.int .i64 (y : Int)) = ((a.set v x).set u y).map i64v := by rw [List.map_set (l := a.set v x)]; rfl
  rw [e2] at ho3
  refine ⟨?_, hf1, ?_, hf2, ho3, grown_trans hg2 hg3⟩
  · rw [hc1]; simp [hv, i64v]
  · rw [hc2]; simp [hu, i64v, huv]

structure TrS (w wr : World) (lv ov : Value) (B Bo n : Nat) (E : Nat → Nat → Bool) (l : List Nat) : Prop where
  net : wr.ownsRow B 2 1 lv n ((indN n E).map i64v)
  out : wr.ownsRow Bo 2 1 ov l.length ((natInts l).map (Value.int .i64))
  far : ∀ b, lv.ownBlock = some b → b < Bo
  bel : Below w.heap.size w wr
  b0 : w.heap.size ≤ B
  b1 : w.heap.size ≤ Bo
  b2 : Bo ≤ wr.heap.size
theorem TrS.turn {w wr wx : World} {lv ov : Value} {B Bo n : Nat} {E E' : Nat → Nat → Bool} {l : List Nat} (h : TrS w wr lv ov B Bo n E l) (ho : wx.ownsRow B 2 1 lv n ((indN n E').map i64v)) (hg : wr.grownBy wx lv.ownBlock) : TrS w wx lv ov B Bo n E' l where
  net := ho
  out := h.out.kept hg (by
    cases hb : ov.ownBlock with
    | none => exact .inl rfl
    | some b =>
      refine .inr fun e => ?_
      have h1 := h.far b e.symm
      have h2 := (h.out.lt b hb).1
      omega)
  far := h.far
  bel := below_grown h.bel h.net hg h.b0 h.bel.size
  b0 := h.b0
  b1 := h.b1
  b2 := Nat.le_trans h.b2 hg.size
theorem TrS.put {w wr wx : World} {lv ov ov' : Value} {B Bo n : Nat} {E : Nat → Nat → Bool} {l : List Nat} {x : Nat} (h : TrS w wr lv ov B Bo n E l) (ho : wx.ownsRow Bo 2 1 ov' (l.length + 1) ((natInts l).map (Value.int .i64) ++ [.int .i64 (x : Int)])) (hg : wr.grownBy wx ov.ownBlock) : TrS w wx lv ov' B Bo n E (l ++ [x]) where
  net := h.net.kept hg (by
    cases hb : lv.ownBlock with
    | none => exact .inl rfl
    | some b =>
      refine .inr fun e => ?_
      have h1 := h.far b hb
      have h2 := (h.out.lt b e.symm).1
      omega)
  out := by
    rw [List.length_append]
    simpa [natInts] using ho
  far := h.far
  bel := below_grown h.bel h.out hg h.b1 h.bel.size
  b0 := h.b0
  b1 := h.b1
  b2 := Nat.le_trans h.b2 hg.size

/-- What holds at a step of the trail. -/
structure TrG (n : Nat) (E0 : Nat → Nat → Bool) (v0 : Nat) (pre : List Nat) (E : Nat → Nat → Bool) (v : Nat) : Prop where
  sym : ∀ r j, E r j = true → E j r = true
  irr : ∀ r, E r r = false
  tr : Tr n E v
  tl : TrlOn n E0 v0 pre E v
  many : pre.length + totN n E ≤ 256
  vn : v < n
theorem TrG.go {n : Nat} {E0 E : Nat → Nat → Bool} {v0 v u : Nat} {pre : List Nat} (h : TrG n E0 v0 pre E v) (hu : u < n) (hE : E v u = true) (hT : Tr n (cutE E v u) u) (hno : ∀ j, j < u → E v j = true → ¬ Tr n (cutE E v j) j) : TrG n E0 v0 (pre ++ [u]) (cutE E v u) u where
  sym := cutE_sym h.sym v u
  irr := cutE_irr h.irr v u
  tr := hT
  tl := trlOn_step h.tl (degN_pos.2 ⟨u, hu, hE⟩) (next_of (fun j hj _ hEj => hno j hj hEj) hu hE hT)
  many := by
    have := totN_cut h.irr h.vn hu hE
    have := h.many
    rw [List.length_append]
    simp only [List.length_singleton]
    omega
  vn := hu
theorem owns_lit1 (w : World) (E : TypeId) (x : Value) : (w.alloc (.cells #[x] E)).ownsRow w.heap.size E 1 (.slice (some ⟨w.heap.size, 0, none⟩) 1 1) 1 [x] :=
  World.ownsRow_lit w #[x] 1 (Nat.le_refl _) (by decide) rfl
theorem owns_someT {w : World} {base : Nat} {E : TypeId} {size n : Nat} {v : Value} {xs : List Value} (h : w.ownsRow base E size v n xs) (hn : 0 < n) : ∃ g c, v = .slice (some ⟨g, 0, none⟩) n c := by
  rcases h.2 with ⟨rfl, rfl⟩ | ⟨g, cap, cur, rfl, _⟩
  · omega
  · exact ⟨_, _, rfl⟩
theorem owns_shapeT1 {w : World} {base : Nat} {E : TypeId} {size n : Nat} {v : Value} {xs : List Value} (h : w.ownsRow base E size v n xs) : ∃ p c, v = .slice p n c := by
  rcases h.2 with ⟨rfl, rfl⟩ | ⟨g, cap, cur, rfl, _⟩
  · exact ⟨_, _, rfl⟩
  · exact ⟨_, _, rfl⟩
theorem getD_set_ne {a : List Nat} {u v x : Nat} (h : v ≠ u) (d : Nat) : (a.set v x).getD u d = a.getD u d := by
  rw [List.getD_eq_getElem?_getD, List.getD_eq_getElem?_getD, List.getElem?_set_ne h]
theorem getD_set_eq {a : List Nat} {u x : Nat} (h : u < a.length) : (a.set u x).getD u 0 = x := by simp [h]
theorem getD_lt16 {n : Nat} (hn : n ≤ 16) {E : Nat → Nat → Bool} {u : Nat} (hu : u < n) : (indN n E).getD u 0 < 65536 := by
  have hl : u < (indN n E).length := by rw [indN_length]; exact hu
  have : (indN n E).getD u 0 = (indN n E)[u] := by simp [hl]
  rw [this]
  exact indN_lt16 hn _ (List.getElem_mem hl)
theorem degN_pos_of {n : Nat} {E : Nat → Nat → Bool} {v s : Nat} (h : (bitsOf s).length = degN n E v) (h0 : s ≠ 0) (hs : s < 65536) : 0 < degN n E v := by
  rw [← h, bitsOf_step s h0 (by omega)]
  simp
def lenV : Value → Nat
  | .slice _ l _ => l
  | _ => 0

set_option maxRecDepth 100000 in
set_option maxHeartbeats 8000000 in
theorem specTrailOf_any (v : Value) (g : List (List Int)) (w : World) (hg : Gr w v g) :
    Calls Tryd.prog 10 #[v] w fun e w' => ∃ (ov : Value) (ys : List Int) (ok : Bool), e = .returned (.tuple #[ov, .bool ok]) ∧ TrailS g ys ok ∧ ys.length ≤ 300 ∧
      w'.ownsRow w.heap.size 2 1 ov ys.length (ys.map (Value.int .i64)) ∧ Below w.heap.size w w' := by
  have hg0 := hg
  obtain ⟨u, rfl, hr⟩ := hg
  obtain ⟨p, c, rfl, _, _, hn⟩ := hr.shape
  have hbA := Lib.hid (below_alloc w (.cells #[.slice p g.length c] 29))
  have HG := Lib.hid (hg0.below hbA.out)
  have BX := Lib.hid (Box.new w (.slice p g.length c) 29)
  clear hr hg0
  by_cases hok : GOk g
  case neg =>
    have hd := Lib.hid (dec_false hok)
    have HS : Hid (TrailS g [] false) := Lib.hid (.inl ⟨hok, rfl, rfl⟩)
    clear hok
    go_enter Tryd.func10, Tryd.ntmps10
    go_wp2_with (go_at_call 29; refine (specGraphOk_any _ g _ HG.out).mono ?_; rintro e w2 ⟨he, hb2⟩; rw [hd.out] at he; subst he)
    go_ret2
    have hb2' := hbA.out.trans (hb2.mono hbA.out.size)
    exact ⟨_, [], false, rfl, HS.out, by simp, ownsRow_base (ownsRow_empty w2 _ 1) hb2'.size, hb2'.trans ((below_alloc w2 _).mono hb2'.size)⟩
  have hd := Lib.hid (dec_true hok)
  have HOK := Lib.hid hok
  have h16 := hok.le
  have h1 := hok.pos
  clear hok
  go_enter Tryd.func10, Tryd.ntmps10
  go_wp2_with (first
    | (go_at_call 52; refine (l25Bits_any _ g _ (HG.out.below hb2) HOK.out).mono ?_; rintro e w3 ⟨lv, rfl, hown3, hb3⟩)
    | (go_at_call 29; refine (specGraphOk_any _ g _ HG.out).mono ?_; rintro e w2 ⟨he, hb2⟩; rw [hd.out] at he; subst he; have hbx := (BX.out.keep hb2).cell))
  obtain ⟨lb, lc, rfl⟩ := owns_someT hown3 (by omega)
  have HW3 := Lib.hid ((hbA.out.trans (hb2.mono hbA.out.size)).trans (hb3.mono (Nat.le_trans hbA.out.size hb2.size)))
  have HB3 := Lib.hid ((BX.out.keep hb2).keep hb3)
  have HG3 := Lib.hid ((HG.out.below hb2).below hb3)
  rw [← indN_ofG HOK.out] at hown3
  have HN3 := Lib.hid hown3
  have HZ2 : Hid (w.heap.size ≤ w2.heap.size) := Lib.hid (Nat.le_trans hbA.out.size hb2.size)
  have HSYM := Lib.hid (ofG_sym HOK.out)
  have HIRR := Lib.hid (ofG_irr HOK.out)
  clear hown3 hb2 hb3 hbx
  generalize w2.heap.size = B at HN3 HZ2
  go_loopw [5] (fun vv wr => ∃ k : Nat, vv = .int .i64 k ∧ k ≤ g.length ∧ Hid (∀ u, u < k → ¬ Tr g.length (ofG g) u) ∧ Below w3.heap.size w3 wr) (fun vv _ => g.length - (intOf vv).toNat)
  case atStart => exact ⟨0, rfl, Nat.zero_le _, Lib.hid (fun u hu => absurd hu (Nat.not_lt_zero _)), Below.refl _ _⟩
  case round =>
    obtain ⟨k, rfl, hk, HNO, hbw⟩ := hrel
    have HBW := Lib.hid hbw
    have hbx := (HB3.out.keep hbw).cell
    clear hbw
    by_cases hlt : k < g.length
    · by_cases hT : Tr g.length (ofG g) k
      · have hdT := Lib.hid (dec_true hT)
        have HTT := Lib.hid hT
        have hne : ((k : Int) == (g.length : Int)) = false := by simp; omega
        clear hT
        go_upto_region 9 with (first
          | (go_at_call 54; refine (l28Goes_any _ _ g.length (ofG g) HSYM.out HIRR.out k rfl h16 hlt _ (Sl.of_owns (ownsRow_below (ownsRow_below HN3.out HBW.out) hb4) (by omega))).mono ?_; rintro e w5 ⟨he, rfl⟩; rw [hdT.out] at he; subst he)
          | (go_at_call 53; refine (l1Size_any _ g _ (((HG3.out.below HBW.out).below hb4))).mono ?_; rintro e w6 ⟨rfl, hb6⟩)
          | (go_at_call 53; refine (l1Size_any _ g _ (HG3.out.below HBW.out)).mono ?_; rintro e w4 ⟨rfl, hb4⟩; have hbx := hb4.at' hbx))
        have hb46 := hb4.trans (hb6.mono hb4.size)
        have hbw6 := HBW.out.trans (hb46.mono HBW.out.size)
        have hw6 := HW3.out.trans (hbw6.mono HW3.out.size)
        have hlb := (HN3.out.lt lb rfl).2
        have hs36 := hbw6.size
        have START : Hid (TrS w (w6.alloc (.cells #[.int .i64 (k : Int)] 2)) (.slice (some ⟨lb, 0, none⟩) g.length lc) (.slice (some ⟨w6.heap.size, 0, none⟩) 1 1) B w6.heap.size g.length (ofG g) [k]) := Lib.hid
          { net := ownsRow_below (ownsRow_below HN3.out hbw6) (below_alloc _ _)
            out := owns_lit1 w6 _ _
            far := fun b hb => by
              have : lb = b := by simpa [Value.ownBlock] using hb
              omega
            bel := hw6.trans ((below_alloc _ _).mono hw6.size)
            b0 := HZ2.out
            b1 := hw6.size
            b2 := by rw [size_alloc]; omega }
        have GST : Hid (TrG g.length (ofG g) k [] (ofG g) k) := Lib.hid ⟨HSYM.out, HIRR.out, HTT.out, trlOn_start _ _ _, by have := totN_le h16 (ofG g); simp; exact this, hlt⟩
        clear hbx hb4 hb6 hb46 hbw6 hw6 hlb hs36 HBW HB3 HG3 HN3 HW3
        go_wp2
        go_loopw [5, 6] (fun vv o wx => ∃ (v : Nat) (pre : List Nat) (E : Nat → Nat → Bool), vv = .int .i64 v ∧ Hid (TrG g.length (ofG g) k pre E v) ∧ Hid (TrS w wx (.slice (some ⟨lb, 0, none⟩) g.length lc) o B w6.heap.size g.length E (k :: pre)))
          (fun _ o _ => 600 - lenV o)
        case atStart => exact ⟨k, [], ofG g, rfl, GST, START⟩
        case round =>
          clear START GST
          obtain ⟨v, pre, E, rfl, HGG, HSS⟩ := hrel
          obtain ⟨op, oc, rfl⟩ := owns_shapeT1 HSS.out.out
          generalize hL : (k :: pre).length = L at HSS ⊢
          have HL := Lib.hid hL
          clear hL
          have hvn := HGG.out.vn
          have hpl : pre.length ≤ 256 := by have := HGG.out.many; omega
          have hkl : v < (indN g.length E).length := by rw [indN_length]; exact hvn
          have hcell := HSS.out.net.cellAt v (by omega)
          rw [List.getElem?_map, List.getElem?_eq_getElem hkl] at hcell
          replace hcell : wr.cell? ⟨lb, v, none⟩ = some (Value.int .i64 ((indN g.length E)[v] : Int)) := hcell
          have hib := indN_bit (E := E) hvn
          have hil := indN_lt16 (E := E) h16 _ (List.getElem_mem hkl)
          have e0 : (indN g.length E).getD v 0 = (indN g.length E)[v] := by simp [hkl]
          rw [e0] at hib
          have HE0 := Lib.hid e0
          generalize (indN g.length E)[v] = s at hcell hib hil HE0
          have HDG : Hid ((bitsOf s).length = degN g.length E v) := Lib.hid (bits_deg h16 hil hib)
          have HIB := Lib.hid hib
          clear hib e0
          by_cases hz : s = 0
          · have HD0 : Hid (degN g.length E v = 0) := Lib.hid (by rw [← HDG.out, hz]; rfl)
            subst hz
            go_wp2
            go_ret2
            exact ⟨_, natInts (k :: pre), true, rfl, .inr (.inr ⟨HOK.out, k, pre, hlt, HNO.out, HTT.out, trlOn_stop HGG.out.tl HD0.out, rfl, rfl⟩), by simp [natInts]; omega, ownsRow_base (by simpa [natInts] using HSS.out.out) HSS.out.b1, HSS.out.bel⟩
          · have hpos : (0 : Int) < (s : Int) := by omega
            have HSZ := Lib.hid hz
            have hposn : 0 < s := by omega
            clear hz
            obtain ⟨wo, rfl⟩ : ∃ wo, wo = wr := ⟨_, rfl⟩
            go_wp2
            clear hcell
            go_loopw [5, 8] (fun vv nr wx => ∃ r : Nat, vv = .int .i64 v ∧ nr = .int .i64 r ∧ r < 65536 ∧ Hid (∀ j, r.testBit j = true → j < g.length ∧ E v j = true) ∧ Hid (∀ j, j < g.length → E v j = true → r.testBit j = false → ¬ Tr g.length (cutE E v j) j) ∧ Hid (TrS w wx (.slice (some ⟨lb, 0, none⟩) g.length lc) (.slice op L oc) B w6.heap.size g.length E (k :: pre)))
              (fun _ nr _ => (bitsOf (intOf nr).toNat).length)
            case atStart => exact ⟨s, rfl, rfl, hil, Lib.hid (fun j hj => by rw [HIB.out] at hj; simpa using hj), Lib.hid (fun j h1 h2 h3 => by rw [HIB.out] at h3; simp [h1, h2] at h3), HSS⟩
            case round =>
              obtain ⟨r, rfl, rfl, hr16, HRB, HRN, HSI⟩ := hrel
              by_cases hr0 : r = 0
              · exfalso
                obtain ⟨u, hu, hE, hT⟩ := tr_go HGG.out.sym HGG.out.irr hvn (degN_pos_of HDG.out HSZ.out hil) HGG.out.tr
                exact HRN.out u hu hE (by rw [hr0, Nat.zero_testBit]) hT
              · obtain ⟨hu1, hu2, hu3⟩ := testBit_ctz r hr0 (by omega)
                have hrp : (0 : Int) < (r : Int) := by omega
                have hstep := Lib.hid (bitsOf_step r hr0 (by omega))
                have HLOW := Lib.hid (fun w => l27Low_any (r : Int) r rfl hr0 hr16 w)
                have hand : bits BinOp.and IntKind.i64 (r : Int) ((r : Int) - 1) = ((r &&& (r - 1) : Nat) : Int) := by
                  have := i64_and_nat r (r - 1) (by omega) (by omega)
                  rw [show ((r - 1 : Nat) : Int) = (r : Int) - 1 by omega] at this
                  exact this
                have hrt16 := and_lt16 r (r - 1) hr16
                have hrtb := testBit_drop_low r hr0 (by omega)
                generalize Lib.ctz 32 r = u at *
                obtain ⟨hun, hE⟩ := HRB.out u hu1
                have huv : v ≠ u := fun e => by subst e; rw [HGG.out.irr] at hE; exact absurd hE (by decide)
                have HUN := Lib.hid (And.intro hun hE)
                have huv2 : u ≠ v := fun e => huv e.symm
                -- the two sets
                have ho := HSI.out.net
                have hal : (indN g.length E).length = g.length := indN_length _ _
                have hu16 := pow_lt16 u (by omega)
                have hv16 := pow_lt16 v (by omega)
                have hwu := wrap_pow u (by omega)
                have hwv := wrap_pow v (by omega)
                obtain ⟨qu, hqu⟩ : ∃ q, q = 2 ^ u := ⟨_, rfl⟩
                obtain ⟨qv, hqv⟩ : ∃ q, q = 2 ^ v := ⟨_, rfl⟩
                rw [← hqu] at hu16 hwu
                rw [← hqv] at hv16 hwv
                obtain ⟨b, hb⟩ : ∃ b, b = (indN g.length E).getD u 0 := ⟨_, rfl⟩
                have hb16 : b < 65536 := by rw [hb]; exact getD_lt16 h16 hun
                have hn1 := i64_andNot_nat s qu (Nat.lt_trans hil (by decide)) (Nat.lt_trans hu16 (by decide))
                have hn2 := i64_andNot_nat b qv (Nat.lt_trans hb16 (by decide)) (Nat.lt_trans hv16 (by decide))
                have hx16 : sub s qu < 65536 := sub_lt16 _ _ hil
                have hy16 : sub b qv < 65536 := sub_lt16 _ _ hb16
                obtain ⟨x, hx⟩ : ∃ x, x = sub s qu := ⟨_, rfl⟩
                obtain ⟨y, hy⟩ : ∃ y, y = sub b qv := ⟨_, rfl⟩
                rw [← hx] at hn1 hx16
                rw [← hy] at hn2 hy16
                obtain ⟨f1, f2, f3, f4, f5, f6⟩ := i64_two (a := indN g.length E) (by rw [hal]; exact ho) (by omega : v < (indN g.length E).length) (by omega : u < (indN g.length E).length) huv x y
                rw [← hb] at f3
                rw [HE0.out] at f1
                have hpart : ((indN g.length E).set v x).set u y = indN g.length (cutE E v u) := by
                  rw [← partN_indN h16 hvn hun huv]
                  have e1 : ((indN g.length E).set v x).getD u 0 = b := by rw [getD_set_ne huv, hb]
                  simp only [partN, HE0.out, ← hqu, ← hx, e1, ← hqv, ← hy]
                have HPP := Lib.hid hpart
                rw [hpart, hal] at f5
                have HSC : Hid (TrS w ((wr.setCell ⟨lb, v, none⟩ (.int .i64 (x : Int))).setCell ⟨lb, u, none⟩ (.int .i64 (y : Int))) (.slice (some ⟨lb, 0, none⟩) g.length lc) (.slice op L oc) B w6.heap.size g.length (cutE E v u) (k :: pre)) := Lib.hid (HSI.out.turn f5 f6)
                have HQU := Lib.hid hqu
                have HQV := Lib.hid hqv
                have HB := Lib.hid hb
                have HXX := Lib.hid hx
                have HYY := Lib.hid hy
                have HHY : Hid ((cutE E v u = cutE E v u)) := Lib.hid rfl
                have hll : (k :: pre).length < 1000000000 := by simp only [List.length_cons]; omega
                have hLL : L = pre.length + 1 := by rw [← HL.out]; rfl
                have HLL := Lib.hid hLL
                clear hLL
                have HNX : Hid (∀ j, j < u → E v j = true → ¬ Tr g.length (cutE E v j) j) := Lib.hid (fun j hj hEj => HRN.out j (by omega) hEj (hu3 j hj))
                have HRT := Lib.hid hrtb
                clear ho hal hqu hqv hb hx hy f5 f6 hpart hu1 hu3 hrtb huv2
                by_cases hT : Tr g.length (cutE E v u) u
                · have hdT := Lib.hid (dec_true hT)
                  have HGN := Lib.hid (HGG.out.go HUN.out.1 HUN.out.2 hT HNX.out)
                  clear hT
                  go_wp2_with (first
                    | (go_at_call 54; refine (l28Goes_any _ _ g.length (cutE E v u) HGN.out.sym HGN.out.irr u rfl h16 hun _ (Sl.of_owns HSC.out.net (by omega))).mono ?_; rintro e w8 ⟨he, rfl⟩; rw [hdT.out] at he; subst he)
                    | (go_at_call 55; refine (HLOW.out _).mono ?_; rintro e w7 ⟨rfl, rfl⟩)
                    | (at_builtin; refine wpList_app1 ty_i64 rfl rfl rfl HSC.out.out (by rw [World.size_setCell, World.size_setCell]; rfl) rfl hll HSC.out.b2 ?_; intro v' w1 hown' hg _))
                  go_roundw
                  case rel => exact ⟨u, pre ++ [u], cutE E v u, rfl, HGN, Lib.hid (HSC.out.put hown' hg)⟩
                  case measure =>
                    obtain ⟨_, _, rfl⟩ := owns_shapeT1 hown'
                    have := HLL.out
                    simp [lenV]
                    omega
                · have hdT := Lib.hid (dec_false hT)
                  have HTN := Lib.hid hT
                  have HSY := Lib.hid (cutE_sym HGG.out.sym v u)
                  have HIR := Lib.hid (cutE_irr HGG.out.irr v u)
                  have hor1 := i64_or_nat x qu (Nat.lt_trans hx16 (by decide)) (Nat.lt_trans hu16 (by decide))
                  have hor2 := i64_or_nat y qv (Nat.lt_trans hy16 (by decide)) (Nat.lt_trans hv16 (by decide))
                  obtain ⟨x2, hx2⟩ : ∃ x2, x2 = x ||| qu := ⟨_, rfl⟩
                  obtain ⟨y2, hy2⟩ : ∃ y2, y2 = y ||| qv := ⟨_, rfl⟩
                  rw [← hx2] at hor1
                  rw [← hy2] at hor2
                  have hal : (indN g.length (cutE E v u)).length = g.length := indN_length _ _
                  obtain ⟨k1, k2, k3, k4, k5, k6⟩ := i64_two (a := indN g.length (cutE E v u)) (by rw [hal]; exact HSC.out.net) (by omega : v < (indN g.length (cutE E v u)).length) (by omega : u < (indN g.length (cutE E v u)).length) huv x2 y2
                  have g1 : (indN g.length (cutE E v u)).getD v 0 = x := by rw [← HPP.out, getD_set_ne huv.symm, getD_set_eq (by rw [indN_length]; exact hvn)]
                  have g2 : (indN g.length (cutE E v u)).getD u 0 = y := by rw [← HPP.out, getD_set_eq (by rw [List.length_set, indN_length]; exact hun)]
                  rw [g1] at k1
                  rw [g2] at k3
                  have hjoin : ((indN g.length (cutE E v u)).set v x2).set u y2 = indN g.length E := by
                    rw [← joinL_cut hvn hun huv hE (HGG.out.sym _ _ hE)]
                    have e1 : ((indN g.length (cutE E v u)).set v x2).getD u 0 = y := by rw [getD_set_ne huv, g2]
                    simp only [joinL, g1, ← HQU.out, ← hx2, e1, ← HQV.out, ← hy2]
                  rw [hjoin, hal] at k5
                  have HSB := Lib.hid (HSC.out.turn k5 k6)
                  have HBACK : Hid (∀ j, j < g.length → E v j = true → (r &&& (r - 1)).testBit j = false → ¬ Tr g.length (cutE E v j) j) := Lib.hid (fun j h1 h2 h3 => by
                    rw [HRT.out] at h3
                    by_cases e : u = j
                    · subst e; exact HTN.out
                    · refine HRN.out j h1 h2 ?_
                      simpa [e] using h3)
                  have HFWD : Hid (∀ j, (r &&& (r - 1)).testBit j = true → j < g.length ∧ E v j = true) := Lib.hid (fun j hj => by
                    rw [HRT.out] at hj
                    exact HRB.out j (Bool.and_eq_true_iff.1 hj).1)
                  generalize r &&& (r - 1) = t at *
                  clear hT hal k5 k6 hjoin g1 g2 hx2 hy2
                  go_wp2_with (first
                    | (go_at_call 54; refine (l28Goes_any _ _ g.length (cutE E v u) HSY.out HIR.out u rfl h16 hun _ (Sl.of_owns HSC.out.net (by omega))).mono ?_; rintro e w8 ⟨he, rfl⟩; rw [hdT.out] at he; subst he)
                    | (go_at_call 55; refine (HLOW.out _).mono ?_; rintro e w7 ⟨rfl, rfl⟩))
                  go_roundw
                  case rel => exact ⟨t, rfl, rfl, hrt16, HFWD, HBACK, HSB⟩
                  case measure => simp [intOf, hstep.out]
      · have hdT := Lib.hid (dec_false hT)
        have HTT := Lib.hid hT
        clear hT
        go_wp2_with (first
          | (go_at_call 54; refine (l28Goes_any _ _ g.length (ofG g) HSYM.out HIRR.out k rfl h16 hlt _ (Sl.of_owns (ownsRow_below (ownsRow_below HN3.out HBW.out) hb4) (by omega))).mono ?_; rintro e w5 ⟨he, rfl⟩; rw [hdT.out] at he; subst he)
          | (go_at_call 53; refine (l1Size_any _ g _ (HG3.out.below HBW.out)).mono ?_; rintro e w4 ⟨rfl, hb4⟩))
        go_roundw
        case rel => exact ⟨k + 1, by go_num, by omega, Lib.hid (fun u hu => by
            by_cases e : u = k
            · subst e; exact HTT.out
            · exact HNO.out u (by omega)), HBW.out.trans (hb4.mono HBW.out.size)⟩
        case measure => simp [intOf]; omega
    · obtain rfl : k = g.length := by omega
      go_wp2_with (first
        | (go_at_call 53; refine (l1Size_any _ g _ (((HG3.out.below HBW.out).below hb4))).mono ?_; rintro e w6 ⟨rfl, hb6⟩)
        | (go_at_call 53; refine (l1Size_any _ g _ (HG3.out.below HBW.out)).mono ?_; rintro e w4 ⟨rfl, hb4⟩; have hbx := hb4.at' hbx))
      go_ret2
      have hbz := HW3.out.trans ((HBW.out.trans ((hb4.trans (hb6.mono hb4.size)).mono HBW.out.size)).mono HW3.out.size)
      exact ⟨_, [], false, rfl, .inr (.inl ⟨HOK.out, HNO.out, rfl, rfl⟩), by simp, ownsRow_base (ownsRow_empty _ _ 1) hbz.size, hbz.trans ((below_alloc _ _).mono hbz.size)⟩

end Go.Proofs.YtjdlmjmhlbpooaaDoor
