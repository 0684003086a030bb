/- Walk: TrailOf (the program's). -/
import Derived.Test.YtjdlmjmhlbpooaaDoorTlQQ27
namespace Go.Proofs.YtjdlmjmhlbpooaaDoor
open Go.RowKit

set_option maxRecDepth 100000 in
set_option maxHeartbeats 1000000 in
theorem trailFn_any (z : Int) (v lb n : Nat) (E : Nat → Nat → Bool) (xp : Option Addr) (xc : Nat) (hz : z = v) (hs : ∀ r j, E r j = true → E j r = true) (hi : ∀ r, E r r = false) (hv : v < n) (w : World) (hB : Box w lb 63 (.slice xp n xc)) (hx : NE w (.slice xp n xc) n E) (hT : Tab w) :
    Calls Tryd.prog 62 #[.int .i64 z, .pointer (some ⟨lb, 0, none⟩)] w fun e w' => e = .returned (.bool (dec (Tr n E v))) ∧ Below w.heap.size w w' := by
  subst hz
  have hc := hB.cell
  have HX := Lib.hid hx
  have HT := Lib.hid hT
  have HS := Lib.hid hs
  have HI := Lib.hid hi
  clear hB hx hT hs hi
  go_enter Tryd.func62, Tryd.ntmps62
  go_wp2_with (go_at_call 63; refine (canTrail_any _ _ n E HS.out HI.out v rfl hv _ HX.out HT.out).mono ?_; rintro e w2 ⟨he, hb2⟩; subst he)
  go_ret
  exact ⟨rfl, hb2⟩

set_option maxRecDepth 100000 in
set_option maxHeartbeats 2000000 in
theorem indexTr_any (lv : Value) (lb n : Nat) (E : Nat → Nat → Bool) (xp : Option Addr) (xc : Nat) (hs : ∀ r j, E r j = true → E j r = true) (hi : ∀ r, E r r = false) (w : World) (hl : Nums w 3 .i64 lv (natInts (List.range n))) (hB : Box w lb 63 (.slice xp n xc)) (hx : NE w (.slice xp n xc) n E) (hT : Tab w) :
    Calls Tryd.prog 58 #[lv, .func (.func 62) #[] #[.pointer (some ⟨lb, 0, none⟩)]] w fun e w' =>
      ∃ z : Int, e = .returned (.int .i64 z) ∧ ((z = -1 ∧ ∀ v, v < n → ¬ Tr n E v) ∨ ∃ v : Nat, z = v ∧ v < n ∧ Tr n E v ∧ ∀ u, u < v → ¬ Tr n E u) ∧ Below w.heap.size w w' := by
  obtain ⟨lp, lc, rfl, _⟩ := id hl.shape
  have hln : (natInts (List.range n)).length = n := by rw [natInts_length, List.length_range]
  rw [hln]
  have HL := Lib.hid hl
  have HB := Lib.hid hB
  have HX := Lib.hid hx
  have h16 := hx.le
  have HT := Lib.hid hT
  have HS := Lib.hid hs
  have HI := Lib.hid hi
  clear hl hB hx hT hs hi hln
  go_enter Tryd.func58, Tryd.ntmps58
  go_wp2
  go_loopw [8] (fun i wr => ∃ k : Nat, k ≤ n ∧ i = .int .i64 k ∧ Hid (∀ j, j < k → ¬ Tr n E j) ∧ Below w.heap.size w wr) (fun i _ => n - (intOf i).toNat)
  case atStart => exact ⟨0, Nat.zero_le _, rfl, Lib.hid (fun j hj => absurd hj (Nat.not_lt_zero _)), Below.refl _ _⟩
  case round =>
    obtain ⟨k, hk, rfl, HNO, hbel⟩ := hrel
    have HBW := Lib.hid hbel
    clear hbel
    by_cases hlt : k < n
    · have hlr := HL.out.below HBW.out
      have hln : (natInts (List.range n)).length = n := by rw [natInts_length, List.length_range]
      rw [hln] at hlr
      obtain ⟨qb, qo, rfl, hq⟩ := hlr.get (k := k) (by rw [hln]; exact hlt)
      have e1 : (natInts (List.range n))[k]'(by rw [hln]; exact hlt) = (k : Int) := by simp [natInts]
      rw [e1] at hq
      clear hlr e1 hln
      by_cases hj : Tr n E k
      · have HJ := Lib.hid hj
        have hd := Lib.hid (dec_true hj)
        clear hj
        go_wp2_with (go_at_call 62; refine (trailFn_any _ k lb n E xp xc rfl HS.out HI.out hlt _ (HB.out.keep HBW.out) (HX.out.next HBW.out) (HT.out.keep HBW.out)).mono ?_; rintro e w2 ⟨he, hb2⟩; rw [hd.out] at he; subst he)
        go_ret
        exact ⟨k, rfl, .inr ⟨k, rfl, hlt, HJ.out, HNO.out⟩, HBW.out.trans (hb2.mono HBW.out.size)⟩
      · have HJ := Lib.hid hj
        have hd := Lib.hid (dec_false hj)
        clear hj
        go_wp2_with (go_at_call 62; refine (trailFn_any _ k lb n E xp xc rfl HS.out HI.out hlt _ (HB.out.keep HBW.out) (HX.out.next HBW.out) (HT.out.keep HBW.out)).mono ?_; rintro e w2 ⟨he, hb2⟩; rw [hd.out] at he; subst he)
        go_roundw
        case rel => exact ⟨k + 1, by omega, by go_num, Lib.hid (fun j hj => by
          by_cases e : j < k
          · exact HNO.out j e
          · obtain rfl : j = k := by omega
            exact HJ.out), HBW.out.trans (hb2.mono HBW.out.size)⟩
        case measure => simp [intOf]; omega
    · obtain rfl : k = n := by omega
      go_wp2
      go_ret
      exact ⟨-1, rfl, .inl ⟨rfl, HNO.out⟩, HBW.out⟩

/-- What the search of the trail carries. -/
structure TrJ (w wr : World) (xp : Option Addr) (xc lb : Nat) (ov : Value) (Bx Bo n : Nat) (E : Nat → Nat → Bool) (l : List Nat) : Prop where
  net : wr.ownsRow Bx 69 1 (.slice xp n xc) n ((indN n E).map u32v)
  box : Box wr lb 63 (.slice xp n xc)
  out : wr.ownsRow Bo 3 1 ov l.length ((natInts l).map (Value.int .i64))
  far : ∀ b, (Value.slice xp n xc).ownBlock = some b → b < lb
  bel : Below w.heap.size w wr
  tab : Tab wr
  tpos : 0 < w.heap.size
  b0 : w.heap.size ≤ Bx
  b1 : lb < Bo
  b2 : Bo ≤ wr.heap.size
  b3 : w.heap.size ≤ Bo
theorem TrJ.next {w wr wx : World} {xp : Option Addr} {xc lb Bx Bo n : Nat} {ov : Value} {E : Nat → Nat → Bool} {l : List Nat} (h : TrJ w wr xp xc lb ov Bx Bo n E l) (hb : Below wr.heap.size wr wx) : TrJ w wx xp xc lb ov Bx Bo n E l :=
  ⟨ownsRow_below h.net hb, h.box.keep hb, ownsRow_below h.out hb, h.far, h.bel.trans (hb.mono h.bel.size), h.tab.keep hb, h.tpos, h.b0, h.b1, Nat.le_trans h.b2 hb.size, h.b3⟩
theorem TrJ.turn {w wr wx : World} {xp : Option Addr} {xc lb Bx Bo n : Nat} {ov : Value} {E E' : Nat → Nat → Bool} {l : List Nat} (h : TrJ w wr xp xc lb ov Bx Bo n E l) (ho : wx.ownsRow Bx 69 1 (.slice xp n xc) n ((indN n E').map u32v)) (hg : wr.grownBy wx (Value.slice xp n xc).ownBlock) : TrJ w wx xp xc lb ov Bx Bo n E' l :=
  ⟨ho, h.box.grown hg (fun e => by have := h.far lb e.symm; omega), ownsRow_other h.out h.net hg (by decide), h.far, below_grown h.bel h.net hg h.b0 h.bel.size, h.tab.grownP hg (fun e => by
    have := (h.net.lt _ e.symm).1
    have := h.b0
    have := h.tpos
    omega), h.tpos, h.b0, h.b1, Nat.le_trans h.b2 hg.size, h.b3⟩
theorem TrJ.put {w wr wx : World} {xp : Option Addr} {xc lb Bx Bo n x : Nat} {ov ov' : Value} {E : Nat → Nat → Bool} {l : List Nat} (h : TrJ w wr xp xc lb ov Bx Bo n E l) (ho : wx.ownsRow Bo 3 1 ov' (l.length + 1) ((natInts l).map (Value.int .i64) ++ [.int .i64 (x : Int)])) (hg : wr.grownBy wx ov.ownBlock) : TrJ w wx xp xc lb ov' Bx Bo n E (l ++ [x]) :=
  ⟨ownsRow_other h.net h.out hg (by decide), h.box.grown hg (fun e => by have := (h.out.lt lb e.symm).1; have := h.b1; omega), by
    rw [List.length_append]
    simpa [natInts] using ho, h.far, below_grown h.bel h.out hg h.b3 h.bel.size, h.tab.grownP hg (fun e => by
    have := (h.out.lt _ e.symm).1
    have := h.b3
    have := h.tpos
    omega), h.tpos, h.b0, h.b1, Nat.le_trans h.b2 hg.size, h.b3⟩
theorem TrJ.ne {w wr : World} {xp : Option Addr} {xc lb Bx Bo n : Nat} {ov : Value} {E : Nat → Nat → Bool} {l : List Nat} (h : TrJ w wr xp xc lb ov Bx Bo n E l) (hn : n ≤ 16) : NE wr (.slice xp n xc) n E :=
  ⟨hn, Sl.of_owns h.net (by omega)⟩

set_option maxRecDepth 100000 in
set_option maxHeartbeats 8000000 in
theorem implTrailOf_any (v : Value) (g : List (List Int)) (w : World) (hg : Gr w v g) (hT : Tab w) :
    Calls Tryd.prog 12 #[v] w fun e w' => ∃ (ov : Value) (ys : List Int) (ok : Bool), e = .returned (.tuple #[ov, .bool ok]) ∧ TrailS g ys ok ∧ ys.length ≤ 300 ∧
      w'.ownsRow w.heap.size 2 1 ov ys.length (ys.map (Value.int .i64)) ∧ Below w.heap.size w w' := by
  have hg0 := hg
  obtain ⟨u, rfl, hr⟩ := hg
  obtain ⟨p, c, rfl, _, _, hn⟩ := hr.shape
  have hbA := Lib.hid (below_alloc w (.cells #[.slice p g.length c] 29))
  have HG := Lib.hid (hg0.below hbA.out)
  have BX := Lib.hid (Box.new w (.slice p g.length c) 29)
  have HT := Lib.hid (hT.keep hbA.out)
  have HTP := Lib.hid hT.pos
  clear hr hg0 hT
  by_cases hok : GOk g
  case neg =>
    have hd := Lib.hid (dec_false hok)
    have HS : Hid (TrailS g [] false) := Lib.hid (.inl ⟨hok, rfl, rfl⟩)
    clear hok
    go_enter Tryd.func12, Tryd.ntmps12
    go_wp2_with (go_at_call 32; refine (implGraphOk_any _ g _ HG.out).mono ?_; rintro e w2 ⟨he, hb2⟩; rw [hd.out] at he; subst he)
    go_ret2
    exact ⟨_, [], false, rfl, HS.out, by simp, World.ownsRow_nil _ _ _ _, hbA.out.trans (hb2.mono hbA.out.size)⟩
  have hd := Lib.hid (dec_true hok)
  have HOK := Lib.hid hok
  have h16 := hok.le
  have h1 := hok.pos
  obtain ⟨hba, hb16⟩ := bits_allT h16
  obtain ⟨W, hW⟩ : ∃ W, W = 2 ^ g.length - 1 := ⟨_, rfl⟩
  rw [← hW] at hba hb16
  have HWW := Lib.hid hW
  have HBA := Lib.hid hba
  have HSYM := Lib.hid (ofG_sym hok)
  have HIRR := Lib.hid (ofG_irr hok)
  have hlr : (bitsOf W).length = g.length := by rw [hba, List.length_range]
  have HLR := Lib.hid hlr
  clear hok hW hba hlr
  go_enter Tryd.func12, Tryd.ntmps12
  go_upto_region 4 with (first
    | (go_at_call 57; refine (netsOf_any _ g _ (HG.out.below hb2) HOK.out).mono ?_; rintro e w3 ⟨x, rfl, hown3, hb3⟩; obtain ⟨xp, xc, rfl⟩ := owns_shapeA hown3)
    | (go_at_call 32; refine (implGraphOk_any _ g _ HG.out).mono ?_; rintro e w2 ⟨he, hb2⟩; rw [hd.out] at he; subst he; have hbx := (BX.out.keep hb2).cell))
  obtain ⟨w4, hw4⟩ : ∃ V, V = w3.alloc (.cells #[.slice xp g.length xc] 63) := ⟨_, rfl⟩
  rw [← hw4]
  obtain ⟨lb, hlb⟩ : ∃ lb, lb = w3.heap.size := ⟨_, rfl⟩
  have HB4 : Hid (Box w4 lb 63 (.slice xp g.length xc)) := Lib.hid (by rw [hw4, hlb]; exact Box.new _ _ _)
  rw [← hlb]
  have hb34 : Below w3.heap.size w3 w4 := by rw [hw4]; exact below_alloc _ _
  rw [← indN_ofG HOK.out] at hown3
  have HNET := Lib.hid (ownsRow_below hown3 hb34)
  have HN4 : Hid (NE w4 (.slice xp g.length xc) g.length (ofG g)) := Lib.hid ⟨h16, Sl.of_owns HNET.out (by omega)⟩
  have HT4 := Lib.hid (((HT.out.keep hb2).keep hb3).keep hb34)
  have HFAR : Hid (∀ b, (Value.slice xp g.length xc).ownBlock = some b → b < lb) := Lib.hid (fun b hb => by rw [hlb]; exact (hown3.lt b hb).2)
  have HBZ : Hid (w.heap.size ≤ w2.heap.size) := Lib.hid (Nat.le_trans hbA.out.size hb2.size)
  have HW4 := Lib.hid (((hbA.out.trans (hb2.mono hbA.out.size)).trans (hb3.mono HBZ.out)).trans (hb34.mono (Nat.le_trans HBZ.out hb3.size)))
  have hl4 : lb + 1 = w4.heap.size := by rw [hw4, size_alloc, hlb]
  have hbl4 : w.heap.size ≤ w4.heap.size := HW4.out.size
  have hb4c := HB4.out.cell
  generalize w2.heap.size = B at HNET HBZ
  clear hw4 hlb hown3 hb34 hb2 hb3 hbx
  go_upto_region 5 with (first
    | (go_at_call 58; refine (indexTr_any _ lb g.length (ofG g) xp xc HSYM.out HIRR.out _ (by rw [← HBA.out]; exact Nums.of_owns hown6 (by simp [natInts]) (by rw [HLR.out]; omega)) ((HB4.out.keep hb5).keep hb6) ((HN4.out.next hb5).next hb6) ((HT4.out.keep hb5).keep hb6)).mono ?_; rintro e w7 ⟨z, rfl, hz, hb7⟩)
    | (go_at_call 59; refine (narrowT_any _ _ _ (Nums.of_owns hown5 (by simp [natInts]) (by rw [HLR.out]; omega))).mono ?_; rintro e w6 ⟨nv, rfl, hown6, hb6⟩; rw [natInts_length] at hown6)
    | (go_at_call 61; refine (numbers_any _ W rfl (by omega) _ HT4.out).mono ?_; rintro e w5 ⟨iv, rfl, hown5, hb5⟩)
    | (go_at_call 60; refine (all_any _ _ _ (by omega) _).mono ?_; rintro e wA ⟨he, rfl⟩; rw [← HWW.out] at he; subst he))
  have hb47 := (hb5.trans (hb6.mono hb5.size)).trans (hb7.mono (Nat.le_trans hb5.size hb6.size))
  have HB47 := Lib.hid hb47
  have hs7 := hb47.size
  have HTPG := HTP
  clear hb5 hb6 hb7 hb47 hown5 hown6 hb4c
  have HBY := Lib.hid (HB4.out.keep HB47.out)
  have HNY := Lib.hid (ownsRow_below HNET.out HB47.out)
  have HTY := Lib.hid (HT4.out.keep HB47.out)
  have HWY := Lib.hid (HW4.out.trans (HB47.out.mono HW4.out.size))
  clear HB47 HB4 HNET HT4 HW4 HN4 HT HG BX hbA
  rcases hz with ⟨rfl, hno⟩ | ⟨k, rfl, hlt, hTk, hno⟩
  · have HNO := Lib.hid hno
    clear hno
    go_wp2
    go_ret2
    exact ⟨_, [], false, rfl, .inr (.inl ⟨HOK.out, HNO.out, rfl, rfl⟩), by simp, World.ownsRow_nil _ _ _ _, HWY.out⟩
  · have HNO := Lib.hid hno
    have HTK := Lib.hid hTk
    have GST : Hid (TrG g.length (ofG g) k [] (ofG g) k) := Lib.hid ⟨HSYM.out, HIRR.out, hTk, trlOn_start _ _ _, by have := totN_le h16 (ofG g); simp; exact this, hlt⟩
    have START : Hid (TrJ w (w7.alloc (.cells #[.int .i64 (k : Int)] 3)) xp xc lb (.slice (some ⟨w7.heap.size, 0, none⟩) 1 1) B w7.heap.size g.length (ofG g) [k]) := Lib.hid
      { net := ownsRow_below HNY.out (below_alloc _ _)
        box := HBY.out.alloc _
        out := owns_lit1 w7 _ _
        far := HFAR.out
        bel := HWY.out.trans ((below_alloc _ _).mono HWY.out.size)
        tab := HTY.out.keep (below_alloc _ _)
        tpos := HTP.out
        b0 := HBZ.out
        b1 := by omega
        b2 := by rw [size_alloc]; omega
        b3 := by omega }
    clear hno hTk HNY HBY HTY HWY
    go_wp2
    go_loopw [5, 6] (fun vv o wx => ∃ (v : Nat) (pre : List Nat) (E : Nat → Nat → Bool), vv = .int .i64 v ∧ Hid (TrG g.length (ofG g) k pre E v) ∧ Hid (TrJ w wx xp xc lb o B w7.heap.size g.length E (k :: pre)))
      (fun _ o _ => 600 - lenV o)
    case atStart => exact ⟨k, [], ofG g, rfl, GST, START⟩
    case round =>
      clear START GST
      obtain ⟨v, pre, E, rfl, HGG, HSS⟩ := hrel
      obtain ⟨op, oc, rfl⟩ := owns_shapeT1 HSS.out.out
      generalize hL : (k :: pre).length = L at HSS ⊢
      have HL := Lib.hid hL
      clear hL
      have hvn := HGG.out.vn
      have hpl : pre.length ≤ 256 := by have := HGG.out.many; omega
      have hbc := HSS.out.box.cell
      have HLEFT := Lib.hid (tr_left HGG.out.vn HGG.out.tr)
      by_cases hD : 0 < degN g.length E v
      · have hdl := Lib.hid (dec_true (HLEFT.out.1 hD))
        have HD := Lib.hid hD
        clear hD
        obtain ⟨cb, co, s, hxp, hcell, hil, hib⟩ := (HSS.out.ne h16).get hvn
        subst hxp
        have HIB := Lib.hid hib
        have HLE : Hid ((bitsOf s).length ≤ 16) := Lib.hid (by rw [bits_deg h16 hil hib]; have := degN_le g.length E v; omega)
        clear hib
        obtain ⟨wo, rfl⟩ : ∃ wo, wo = wr := ⟨_, rfl⟩
        go_upto_region 9 with (go_at_call 64; refine (edgesLeft_any _ g.length E _ (HSS.out.ne h16)).mono ?_; rintro e w8 ⟨he, rfl⟩; rw [hdl.out] at he; subst he)
        obtain ⟨R, hR⟩ : ∃ R, R = bitsOf s := ⟨_, rfl⟩
        have HRM : Hid (∀ x, x ∈ R ↔ x < g.length ∧ E v x = true) := Lib.hid (fun x => by rw [hR, mem_left hil, HIB.out]; simp)
        have HRR : Hid (R.Pairwise (· < ·)) := Lib.hid (by rw [hR]; exact bitsOf_rising s)
        have hRl : R.length ≤ 16 := by rw [hR]; exact HLE.out
        have HLA : Hid (∀ w, Tab w → Calls Tryd.prog 65 #[.int .u32 (s : Int)] w fun e w' => ∃ v, e = .returned v ∧ w'.ownsRow w.heap.size 3 1 v R.length ((natInts R).map (Value.int .i64)) ∧ Below w.heap.size w w') := Lib.hid (fun w hT => by
          rw [hR]
          exact list_any _ s rfl (by omega) w hT)
        clear hR
        go_wp2_with (go_at_call 65; refine (HLA.out _ HSS.out.tab).mono ?_; rintro e w8 ⟨rv, rfl, hown8, hb8⟩; obtain ⟨rp, rc, rfl⟩ := owns_shapeT1 hown8)
        have HRW : Hid (Nums w8 3 .i64 (.slice rp R.length rc) (natInts R)) := Lib.hid (Nums.of_owns hown8 (by simp [natInts]) (by omega))
        have HS8 := Lib.hid (HSS.out.next hb8)
        clear hown8 hb8 hcell hbc HLE HIB hil HLA
        go_loopw [5, 32] (fun vv i wx => ∃ t : Nat, vv = .int .i64 v ∧ i = .int .i64 t ∧ t ≤ R.length ∧ Hid (∀ j, j < t → ¬ Tr g.length (cutE E v (R.getD j 0)) (R.getD j 0)) ∧ Hid (Nums wx 3 .i64 (.slice rp R.length rc) (natInts R)) ∧ Hid (TrJ w wx (some ⟨cb, co, none⟩) xc lb (.slice op L oc) B w7.heap.size g.length E (k :: pre)))
          (fun _ i _ => R.length - (intOf i).toNat)
        case atStart => exact ⟨0, rfl, rfl, Nat.zero_le _, Lib.hid (fun j hj => absurd hj (Nat.not_lt_zero _)), HRW, HS8⟩
        case round =>
          clear HRW HS8
          obtain ⟨t, rfl, rfl, ht, HNT, HRW, HSI⟩ := hrel
          by_cases htl : t < R.length
          · obtain ⟨rb, ro, rfl, hrc⟩ := HRW.out.get (k := t) (by rw [natInts_length]; exact htl)
            rw [natInts_atL htl] at hrc
            obtain ⟨hun, hE⟩ := (HRM.out R[t]).1 (List.getElem_mem htl)
            have HLT : Hid (∀ j, j < R[t] → E v j = true → ¬ Tr g.length (cutE E v j) j) := Lib.hid (fun j hj hEj => by
              have hjm := (HRM.out j).2 ⟨by omega, hEj⟩
              obtain ⟨i, hi, e⟩ := List.getElem_of_mem hjm
              have hit : i < t := by
                refine Nat.lt_of_not_le fun hge => ?_
                rcases Nat.lt_or_ge t i with h1 | h1
                · have := List.pairwise_iff_getElem.1 HRR.out t i htl hi h1
                  omega
                · have : i = t := by omega
                  subst this
                  omega
              have h2 := HNT.out i hit
              have e2 : R.getD i 0 = j := by simp [hi, e]
              rw [e2] at h2
              exact h2)
            have HAT : Hid (R.getD t 0 = R[t]) := Lib.hid (by simp [htl])
            generalize R[t] = u at *
            have huv : v ≠ u := fun e => by subst e; rw [HGG.out.irr] at hE; exact absurd hE (by decide)
            have HEE := Lib.hid (And.intro hE (HGG.out.sym _ _ hE))
            have HSY := Lib.hid (cutE_sym HGG.out.sym v u)
            have HIR := Lib.hid (cutE_irr HGG.out.irr v u)
            have hbc := HSI.out.box.cell
            have HPT : Hid (∀ wz, wz = wr → Calls Tryd.prog 66 #[.slice (some ⟨cb, co, none⟩) g.length xc, .int .i64 v, .int .i64 u] wz fun e w' => e = .returned (.tuple #[]) ∧ Nums w' 3 .i64 (.slice (some ⟨rb, ro, none⟩) R.length rc) (natInts R) ∧ TrJ w w' (some ⟨cb, co, none⟩) xc lb (.slice op L oc) B w7.heap.size g.length (cutE E v u) (k :: pre)) := Lib.hid (by
              rintro wz rfl
              have h := part_any (.slice (some ⟨cb, co, none⟩) g.length xc) v u (indN g.length E) v u B rfl rfl (by rw [indN_length]; exact hvn) (by rw [indN_length]; exact hun) huv (by rw [indN_length]; exact h16) (indN_lt16 h16) wz (by rw [indN_length]; exact HSI.out.net)
              rw [indN_length, partN_indN h16 hvn hun huv] at h
              exact h.mono fun e w' ⟨h1, h2, h3⟩ => ⟨h1, HRW.out.other HSI.out.net h3 (by decide), HSI.out.turn h2 h3⟩)
            have HJN : Hid (∀ wz, TrJ w wz (some ⟨cb, co, none⟩) xc lb (.slice op L oc) B w7.heap.size g.length (cutE E v u) (k :: pre) → Nums wz 3 .i64 (.slice (some ⟨rb, ro, none⟩) R.length rc) (natInts R) → Calls Tryd.prog 67 #[.slice (some ⟨cb, co, none⟩) g.length xc, .int .i64 v, .int .i64 u] wz fun e w' => e = .returned (.tuple #[]) ∧ Nums w' 3 .i64 (.slice (some ⟨rb, ro, none⟩) R.length rc) (natInts R) ∧ TrJ w w' (some ⟨cb, co, none⟩) xc lb (.slice op L oc) B w7.heap.size g.length E (k :: pre)) := Lib.hid (by
              intro wz hz hnz
              have h := join_any (.slice (some ⟨cb, co, none⟩) g.length xc) v u (indN g.length (cutE E v u)) v u B rfl rfl (by rw [indN_length]; exact hvn) (by rw [indN_length]; exact hun) huv (by rw [indN_length]; exact h16) (indN_lt16 h16) wz (by rw [indN_length]; exact hz.net)
              rw [indN_length, joinL_cut hvn hun huv HEE.out.1 HEE.out.2] at h
              exact h.mono fun e w' ⟨h1, h2, h3⟩ => ⟨h1, hnz.other hz.net h3 (by decide), hz.turn h2 h3⟩)
            have hll : (k :: pre).length < 1000000000 := by simp only [List.length_cons]; omega
            by_cases hT : Tr g.length (cutE E v u) u
            · have hdT := Lib.hid (dec_true hT)
              have HGN := Lib.hid (HGG.out.go hun hE hT HLT.out)
              clear hT hE
              go_wp2_with (first
                | (at_builtin; refine wpList_app1 ty_int rfl rfl rfl HS10.out.out rfl rfl hll HS10.out.b2 ?_; intro v' w1 hown' hg _)
                | (go_at_call 63; refine (canTrail_any _ _ g.length (cutE E v u) HSY.out HIR.out u rfl hun _ (HS9.out.ne h16) HS9.out.tab).mono ?_; rintro e w10 ⟨he, hb10⟩; rw [hdT.out] at he; subst he; have HS10 := Lib.hid (HS9.out.next hb10); clear hb10)
                | (go_at_call 66; refine (HPT.out _ rfl).mono ?_; rintro e w9 ⟨rfl, hN9, hS9⟩; have hbc9 := hS9.box.cell; have HS9 := Lib.hid hS9; clear hN9 hS9))
              go_roundw
              case rel => exact ⟨u, pre ++ [u], cutE E v u, rfl, HGN, Lib.hid (HS10.out.put hown' hg)⟩
              case measure =>
                obtain ⟨_, _, rfl⟩ := owns_shapeT1 hown'
                have := HL.out
                simp only [List.length_cons] at this
                simp [lenV]
                omega
            · have hdT := Lib.hid (dec_false hT)
              have HTN := Lib.hid hT
              clear hT hE
              go_wp2_with (first
                | (go_at_call 67; refine (HJN.out _ HS10.out (HN9.out.below HB10.out)).mono ?_; rintro e w11 ⟨rfl, hN11, hS11⟩; have HN11 := Lib.hid hN11; have HS11 := Lib.hid hS11; clear hN11 hS11)
                | (go_at_call 63; refine (canTrail_any _ _ g.length (cutE E v u) HSY.out HIR.out u rfl hun _ (HS9.out.ne h16) HS9.out.tab).mono ?_; rintro e w10 ⟨he, hb10⟩; rw [hdT.out] at he; subst he; have HS10 := Lib.hid (HS9.out.next hb10); have HB10 := Lib.hid hb10; have hbc10 := HS10.out.box.cell; clear hb10)
                | (go_at_call 66; refine (HPT.out _ rfl).mono ?_; rintro e w9 ⟨rfl, hN9, hS9⟩; have hbc9 := hS9.box.cell; have HS9 := Lib.hid hS9; have HN9 := Lib.hid hN9; clear hN9 hS9))
              go_roundw
              case rel => exact ⟨t + 1, rfl, by go_num, by omega, Lib.hid (fun j hj => by
                  by_cases e : j = t
                  · subst e; rw [HAT.out]; exact HTN.out
                  · exact HNT.out j (by omega)), HN11, HS11⟩
              case measure => simp [intOf]; omega
          · exfalso
            obtain ⟨u, hu, hE, hT⟩ := tr_go HGG.out.sym HGG.out.irr hvn HD.out HGG.out.tr
            obtain ⟨i, hi, e⟩ := List.getElem_of_mem ((HRM.out u).2 ⟨hu, hE⟩)
            have h2 := HNT.out i (by omega)
            have e2 : R.getD i 0 = u := by simp [hi, e]
            rw [e2] at h2
            exact h2 hT
      · have hdl := Lib.hid (dec_false (fun h => hD (HLEFT.out.2 h)))
        have HD0 : Hid (degN g.length E v = 0) := Lib.hid (by omega)
        clear hD
        go_wp2_with (first
          | (go_at_call 68; refine (wide_any _ _ _ (Nums.of_owns (xs := natInts (k :: pre)) HSS.out.out (by simp [natInts]) (by simp; omega))).mono ?_; rintro e w9 ⟨uo, rfl, hown9, hb9⟩)
          | (go_at_call 64; refine (edgesLeft_any _ g.length E _ (HSS.out.ne h16)).mono ?_; rintro e w8 ⟨he, rfl⟩; rw [hdl.out] at he; subst he))
        go_ret2
        exact ⟨_, natInts (k :: pre), true, rfl, .inr (.inr ⟨HOK.out, k, pre, hlt, HNO.out, HTK.out, trlOn_stop HGG.out.tl HD0.out, rfl, rfl⟩), by simp [natInts]; omega, ownsRow_base hown9 HSS.out.bel.size, HSS.out.bel.trans (hb9.mono HSS.out.bel.size)⟩

end Go.Proofs.YtjdlmjmhlbpooaaDoor
