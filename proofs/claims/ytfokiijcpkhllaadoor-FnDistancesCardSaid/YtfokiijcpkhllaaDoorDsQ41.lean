/- Walks: the program prunes again and again; PrunedOf. -/
import Derived.Test.YtfokiijcpkhllaaDoorDsQ40
import Derived.Test.YtfokiijcpkhllaaDoorDsQ4
namespace Go.Proofs.YtfokiijcpkhllaaDoor
open Go.RowKit

theorem pruneOf_yes (p : Option Addr) (c : Nat) (y z : Int) (g : List (List Int)) (s v : Nat) (hy : y = s) (hz : z = v) (hv : s.testBit v = true) (w : World) (hx : NetI w (.slice p g.length c) g s) {V B K : Int} (hr : PrS g (natInts (bitsOf s)) v (some ⟨V, B, K⟩)) :
    Calls Tryd.prog 110 #[.slice p g.length c, .int .u32 y, .int .i64 z] w fun e w' => e = .returned (.tuple #[.agg #[.int .i64 V, .int .i64 B, .int .i64 K], .bool true]) ∧ Below w.heap.size w w' :=
  (pruneOf_any p c y z g s v hy hz hv w hx).mono fun e w' ⟨r, h1, h2, h3⟩ => by
    obtain rfl := prS_det h1 hr
    exact ⟨h2, h3⟩
theorem pruneOf_no (p : Option Addr) (c : Nat) (y z : Int) (g : List (List Int)) (s v : Nat) (hy : y = s) (hz : z = v) (hv : s.testBit v = true) (w : World) (hx : NetI w (.slice p g.length c) g s) (hr : PrS g (natInts (bitsOf s)) v none) :
    Calls Tryd.prog 110 #[.slice p g.length c, .int .u32 y, .int .i64 z] w fun e w' => e = .returned (.tuple #[.agg #[.int .i64 0, .int .i64 0, .int .i64 0], .bool false]) ∧ Below w.heap.size w w' :=
  (pruneOf_any p c y z g s v hy hz hv w hx).mono fun e w' ⟨r, h1, h2, h3⟩ => by
    obtain rfl := prS_det h1 hr
    exact ⟨h2, h3⟩

theorem natInts_get {l : List Nat} {j : Nat} (h : j < (natInts l).length) : (natInts l)[j] = ((l[j]'(by rwa [natInts_length] at h) : Nat) : Int) := by simp [natInts]
theorem bits_sub_ltP {left v : Nat} (h : left < 65536) (hv : left.testBit v = true) (h16 : v < 16) : (bitsOf (sub left (2 ^ v))).length < (bitsOf left).length := by
  have h1 := list_sub h h16
  have h2 : ((v : Nat) : Int) ∈ natInts (bitsOf left) := mem_natInts.2 ⟨v, (mem_left h).2 hv, rfl⟩
  have h3 := lessL_length_lt h2
  rw [h1, natInts_length, natInts_length] at h3
  exact h3

theorem Sl.shapeP {w : World} {E : TypeId} {v : Value} {n : Nat} {vals : List Value} (h : Sl w E v n vals) : ∃ p c, v = .slice p n c := by
  obtain ⟨p, c, e, _⟩ := h
  exact ⟨p, c, e⟩

/-- What the loop of the program carries. -/
structure PInv (w wr : World) (x ov : Value) (g : List (List Int)) (L0 : List Int) (s : Nat) (os : List Pr) : Prop where
  net : NetI wr x g s
  own : wr.ownsRow w.heap.size 129 3 ov os.length (prCells os)
  bel : Below w.heap.size w wr
  on : PrOn g L0 os (natInts (bitsOf s))
  cnt : os.length + (bitsOf s).length ≤ 16
  tab : Tab wr
  tpos : 0 < w.heap.size

theorem PInv.next {w wr W : World} {x ov : Value} {g : List (List Int)} {L0 : List Int} {s : Nat} {os : List Pr} (h : PInv w wr x ov g L0 s os) (hb : Below wr.heap.size wr W) : PInv w W x ov g L0 s os where
  net := h.net.next hb
  own := ownsRow_below h.own hb
  bel := h.bel.trans (hb.mono h.bel.size)
  on := h.on
  cnt := h.cnt
  tab := h.tab.keep hb
  tpos := h.tpos
theorem PInv.step {w wr w7 : World} {b7 c7 : Nat} {x ov : Value} {g : List (List Int)} {L0 : List Int} {s : Nat} {os : List Pr} {p : Pr} (h : PInv w wr x ov g L0 s os) {j : Nat} (hj : j < (bitsOf s).length)
    (hbad : ∀ i (hi : i < (bitsOf s).length), i < j → PrS g (natInts (bitsOf s)) ((bitsOf s)[i] : Nat) none) (hp : PrS g (natInts (bitsOf s)) ((bitsOf s)[j] : Nat) (some p))
    (hown7 : w7.ownsRow w.heap.size 129 3 (.slice (some ⟨b7, 0, none⟩) (os.length + 1) c7) (os.length + 1) (prCells os ++ [.int .i64 p.V, .int .i64 p.B, .int .i64 p.K])) (hg7 : wr.grownBy w7 ov.ownBlock) :
    PInv w w7 x (.slice (some ⟨b7, 0, none⟩) (os.length + 1) c7) g L0 (sub s (2 ^ (bitsOf s)[j])) (os ++ [p]) := by
  have s16 := h.net.ok.s16
  have hbit : s.testBit (bitsOf s)[j] = true := (mem_left s16).1 (List.getElem_mem hj)
  have hvl := h.net.ok.inn _ hbit
  have hle := h.net.ok.ok.le
  have hjl : j < (natInts (bitsOf s)).length := by rw [natInts_length]; exact hj
  have hb7 := below_grown h.bel h.own hg7 (Nat.le_refl _) h.bel.size
  have hpos := h.tab.pos
  have hon := prOn_step h.on hjl (fun i hi hh => by rw [natInts_get hi]; exact hbad i (by rwa [natInts_length] at hi) hh) (by rw [natInts_get hjl]; exact hp)
  rw [natInts_get hjl, list_sub s16 (by omega)] at hon
  have hlt := bits_sub_ltP s16 hbit (by omega)
  have hcnt := h.cnt
  exact { net := ⟨⟨h.net.ok.ok, sub_lt16 _ _ s16, fun i hi => h.net.ok.inn i ((testBit_sub1 s16 (by omega) i).1 hi).1⟩, h.net.sl.other h.own hg7 (by decide)⟩
          own := by
            have e : (os ++ [p]).length = os.length + 1 := by simp
            rw [e, prCells_snoc]; exact hown7
          bel := hb7
          on := hon
          cnt := by simp; omega
          tab := fun i hi => hg7.cell (a := ⟨_, i, none⟩) (h.tab i hi) (fun e => by
            have e' : ov.ownBlock = some 0 := e.symm
            have := (h.own.lt _ e').1
            have := h.tpos
            omega)
          tpos := h.tpos }

set_option maxRecDepth 100000 in
set_option maxHeartbeats 4000000 in
theorem prunedOf_any (x : Value) (y : Int) (g : List (List Int)) (s0 : Nat) (hy : y = s0) (w : World) (hx : NetI w x g s0) (hcnt : (bitsOf s0).length ≤ 16) (hT : Tab w) :
    Calls Tryd.prog 44 #[x, .int .u32 y] w fun e w' => ∃ (ov : Value) (fs : List Pr) (l : Nat), e = .returned (.tuple #[ov, .int .u32 (l : Int)]) ∧ Prunes g (natInts (bitsOf s0)) fs (natInts (bitsOf l)) ∧
      w'.ownsRow w.heap.size 129 3 ov fs.length (prCells fs) ∧ l < 65536 ∧ fs.length + (bitsOf l).length ≤ 16 ∧ Tab w' ∧ Below w.heap.size w w' := by
  subst hy
  obtain ⟨xp, xc, rfl⟩ : ∃ p c, x = .slice p g.length c := by obtain ⟨p, c, e, _⟩ := hx.sl; exact ⟨p, c, e⟩
  have hbA := below_alloc w (.cells #[] 129)
  have START := Lib.hid (show PInv w (w.alloc (.cells #[] 129)) (.slice xp g.length xc) (.slice (some ⟨w.heap.size, 0, none⟩) 0 0) g (natInts (bitsOf s0)) s0 [] from
    { net := hx.next hbA, own := ownsRow_empty _ _ _, bel := hbA, on := prOn_start _ _, cnt := by simpa using hcnt, tab := hT.keep hbA, tpos := hT.pos })
  have HP := Lib.hid hT.pos
  clear hbA hx hT hcnt
  go_enter Tryd.func44, Tryd.ntmps44
  go_wp2
  go_loopw [1, 6, 7] (fun s1 s6 s7 wr => ∃ (lf : Nat) (os : List Pr) (found : Bool), s1 = .int .u32 (lf : Int) ∧ s7 = .bool found ∧ PInv w wr (.slice xp g.length xc) s6 g (natInts (bitsOf s0)) lf os ∧ (found = false → ∀ j (hj : j < (bitsOf lf).length), PrS g (natInts (bitsOf lf)) ((bitsOf lf)[j] : Nat) none))
    (fun s1 _ s7 _ => (bitsOf (intOf s1).toNat).length * 2 + (match s7 with | .bool true => 1 | _ => 0))
  case atStart => exact ⟨s0, [], true, rfl, rfl, START.out, fun e => nomatch e⟩
  case round =>
    obtain ⟨lf, os, found, rfl, rfl, hinv, hstop⟩ := hrel
    clear START
    have Hinv := Lib.hid hinv
    have Hstop := Lib.hid hstop
    clear hinv hstop
    cases found with
    | false =>
      go_wp2
      go_ret2
      have hinv := Hinv.out
      exact ⟨_, os, lf, rfl, prOn_stop hinv.on (fun j hj => by rw [natInts_get hj]; exact Hstop.out trivial j (by rwa [natInts_length] at hj)), hinv.own, hinv.net.ok.s16, hinv.cnt, hinv.tab, hinv.bel⟩
    | true =>
      have htab := Hinv.out.tab
      have hlf := Hinv.out.net.ok.s16
      have hlf32 : lf < 4294967296 := by omega
      have hc16 := Hinv.out.cnt
      go_wp2_with (go_at_call 48; refine (list_any _ lf rfl hlf32 _ htab).mono ?_; rintro e w2 ⟨lv, rfl, hown2, hb2⟩; have hnl := Nums.of_owns hown2 (natInts_length _).symm (by omega); obtain ⟨lp, lc, rfl, _, _, _, hat⟩ := hnl.shape; rw [natInts_length])
      clear hc16 htab
      have hinv2 := Hinv.out
      obtain ⟨ov, hov⟩ : ∃ ov, ov = u6 := ⟨_, rfl⟩
      subst hov
      go_loopw [1, 6, 7, 9, 17] (fun s1 s6 s7 _ i wx => ∃ j : Nat, j ≤ (bitsOf lf).length ∧ i = .int .i64 j ∧ s1 = .int .u32 (lf : Int) ∧ s6 = ov ∧ s7 = .bool false ∧ (∀ i (hi : i < (bitsOf lf).length), i < j → PrS g (natInts (bitsOf lf)) ((bitsOf lf)[i] : Nat) none) ∧ Below w2.heap.size w2 wx) (fun _ _ _ _ i _ => (bitsOf lf).length - (intOf i).toNat)
      case atStart => exact ⟨0, Nat.zero_le _, rfl, rfl, rfl, rfl, fun i hi h => by omega, Below.refl _ _⟩
      case round =>
        obtain ⟨j, hj, rfl, rfl, rfl, rfl, hbad, hbx⟩ := hrel
        have hinvx := hinv2.next (hb2.trans (hbx.mono hb2.size))
        clear hinv2
        have HB := Lib.hid hbad
        clear hbad
        by_cases hlt : j < (bitsOf lf).length
        · obtain ⟨v, hv⟩ : ∃ v : Nat, v = (bitsOf lf)[j] := ⟨_, rfl⟩
          have hvb : lf.testBit v = true := (mem_left hlf).1 (hv ▸ List.getElem_mem hlt)
          have hvl := hinvx.net.ok.inn v hvb
          have hle := hinvx.net.ok.ok.le
          have hjl : j < (natInts (bitsOf lf)).length := by rw [natInts_length]; exact hlt
          obtain ⟨lb, lo, rfl, hcl⟩ := (hat.below hbx).num hjl
          have hval : (natInts (bitsOf lf))[j] = (v : Int) := by rw [hv]; simp [natInts]
          rw [hval] at hcl
          have HV := Lib.hid hv
          have HI := Lib.hid hinvx
          have HVB := Lib.hid hvb
          have hcnt := hinvx.cnt
          obtain ⟨r, hpr⟩ := prS_ex (g := g) (L := natInts (bitsOf lf)) (v := (v : Int)) (fun x hx => by obtain ⟨i, rfl, _⟩ := (mem_bitsZ hlf).1 hx; omega)
          clear hval hv hinvx hat
          have HPR := Lib.hid hpr
          clear hpr
          cases r with
          | some f =>
            obtain ⟨V, B, K⟩ := f
            have hand := Lib.hid (u32_andNot_nat lf (2 ^ v) hlf32 (pow_lt32 v (by omega)))
            have hv32 : v < 32 := by omega
            have hos : os.length < 1000000000 := by omega
            go_wp2_with (first
              | (go_at_call 110; refine (pruneOf_yes _ _ _ _ g lf v rfl rfl HVB.out _ HI.out.net HPR.out).mono ?_; rintro e w4 ⟨rfl, hb4⟩; have s4 := hb4.size; have HI4 := Lib.hid ((HI.out.next hb4).next (below_alloc w4 (.cells #[.int .i64 V, .int .i64 B, .int .i64 K] 129))); obtain ⟨z0, z1, z2⟩ := (Box3.new w4 (.int .i64 V) (.int .i64 B) (.int .i64 K) 129).cells)
              | (at_builtin; refine wpList_appE ty_prunes rfl rfl rfl HI4.out.own (by rw [size_alloc]; rfl) rfl (by simp [Value.oneCell']) hos (by have := HI4.out.bel.size; omega) ?_; intro b7 c7 w7 hown7 hg7 _ _)
              | (go_at_call 74; refine (one_any _ v rfl hv32 _).mono ?_; rintro e w8 ⟨rfl, rfl⟩))
            have h2p : (2 : Int) ^ v = ((2 ^ v : Nat) : Int) := by simp
            have hand' : bits BinOp.andNot IntKind.u32 (lf : Int) (2 ^ v) = ((sub lf (2 ^ v) : Nat) : Int) := by rw [h2p]; exact hand.out
            have hvv := HV.out
            go_roundw
            case rel =>
              have hst := HI4.out.step hlt HB.out (by rw [← hvv]; exact HPR.out) hown7 hg7
              rw [← hvv] at hst
              exact ⟨sub lf (2 ^ v), os ++ [⟨V, B, K⟩], true, val_int hand', rfl, hst, fun e => nomatch e⟩
            case measure =>
              have hl := bits_sub_ltP hlf HVB.out (by omega)
              rw [hand']
              simp [intOf]
              omega
          | none =>
            go_wp2_with (go_at_call 110; refine (pruneOf_no _ _ _ _ g lf v rfl rfl HVB.out _ HI.out.net HPR.out).mono ?_; rintro e w4 ⟨rfl, hb4⟩)
            go_roundw
            case rel =>
              refine ⟨j + 1, by omega, by go_num, rfl, rfl, rfl, fun i hi h => ?_, hbx.trans ((hb4.alloc hb4.size _).mono hbx.size)⟩
              by_cases e : i = j
              · subst e; rw [← HV.out]; exact HPR.out
              · exact HB.out i hi (by omega)
            case measure => simp [intOf]; omega
        · obtain rfl : j = (bitsOf lf).length := by omega
          have HI := Lib.hid hinvx
          clear hinvx
          go_wp2
          go_roundw
          case rel => exact ⟨lf, os, false, rfl, rfl, HI.out, fun _ i hi => HB.out i hi hi⟩
          case measure => simp

theorem lOk_start {g : List (List Int)} (h : GOk g) {M : Nat} (hM : M = 2 ^ g.length - 1) : LOk g M := by
  have hle := h.le
  subst hM
  refine ⟨h, ?_, fun i hi => ?_⟩
  · have : 2 ^ g.length ≤ 2 ^ 16 := Nat.pow_le_pow_right (by decide) hle
    have h2 : (2 : Nat) ^ 16 = 65536 := by decide
    have : 0 < 2 ^ g.length := Nat.pow_pos (by decide)
    omega
  · rw [testBit_firstOf] at hi
    simpa using hi

set_option maxRecDepth 100000 in
set_option maxHeartbeats 2000000 in
theorem implPrunedOf_any (v : Value) (g : List (List Int)) (w : World) (hg : Gr w v g) (hT : Tab w) :
    Calls Tryd.prog 39 #[v] w fun e w' => ∃ (ov lv : Value) (fs : List Pr) (l : List Int), e = .returned (.tuple #[ov, lv]) ∧ PrunedS g fs l ∧
      w'.ownsRow w.heap.size 129 3 ov fs.length (prCells fs) ∧ w'.ownsRow w.heap.size 2 1 lv l.length (l.map (Value.int .i64)) ∧ fs.length ≤ 16 ∧ l.length ≤ 16 ∧ Below w.heap.size w w' := by
  have hg0 := hg
  obtain ⟨u, rfl, hr⟩ := hg
  obtain ⟨p, c, rfl, _, _, _⟩ := hr.shape
  have hbA := Lib.hid (below_alloc w (.cells #[.slice p g.length c] 29))
  have HG := Lib.hid (hg0.below hbA.out)
  have BX := Lib.hid (Box.new w (.slice p g.length c) 29)
  have HT := Lib.hid (hT.keep hbA.out)
  clear hr hg0 hT
  by_cases hok : GOk g
  case neg =>
    have hd := dec_false hok
    have Hok := Lib.hid hok
    clear hok
    go_enter Tryd.func39, Tryd.ntmps39
    go_wp2_with (go_at_call 38; refine (implGraphOk_any _ g _ HG.out).mono ?_; rintro e w2 ⟨he, hb2⟩; rw [hd] at he; subst he)
    go_ret2
    exact ⟨_, _, [], [], rfl, .inr ⟨Hok.out, rfl, rfl⟩, ⟨rfl, .inl ⟨rfl, rfl⟩⟩, ⟨rfl, .inl ⟨rfl, rfl⟩⟩, by simp, by simp, hbA.out.trans (hb2.mono hbA.out.size)⟩
  have hd := dec_true hok
  obtain ⟨M, hM⟩ : ∃ M, M = 2 ^ g.length - 1 := ⟨_, rfl⟩
  have hl := lOk_start hok hM
  have hle := hok.le
  have hmal : natInts (bitsOf M) = allL g.length := by rw [hM]; exact natInts_range _ hle
  have hcnt : (bitsOf M).length ≤ 16 := by
    rw [← natInts_length, hmal, allL_length]; exact hle
  have HM := Lib.hid hM
  have HL := Lib.hid hl
  have HMAL := Lib.hid hmal
  have HCNT := Lib.hid hcnt
  have Hok := Lib.hid hok
  clear hok hM hl hmal hcnt
  go_enter Tryd.func39, Tryd.ntmps39
  go_wp2_with (first
    | (go_at_call 38; refine (implGraphOk_any _ g _ HG.out).mono ?_; rintro e w2 ⟨he, hb2⟩; rw [hd] at he; subst he; have hbx := (BX.out.keep hb2).cell)
    | (go_at_call 41; refine (netsOf_any _ g _ (HG.out.below hb2) Hok.out).mono ?_; rintro e w3 ⟨x, rfl, hown3, hb3⟩; have hx3 := Sl.of_owns hown3 (by omega); obtain ⟨xp, xc, rfl⟩ := hx3.shapeP; have HX3 := Lib.hid hx3; have HT3 := Lib.hid ((HT.out.keep hb2).keep hb3); clear hx3 hown3)
    | (go_at_call 46; refine (all_any _ _ _ (by omega) _).mono ?_; rintro e w4 ⟨he4, rfl⟩; rw [← HM.out] at he4; subst he4)
    | (go_at_call 44; refine (prunedOf_any _ _ g M rfl _ ⟨HL.out, HX3.out⟩ HCNT.out HT3.out).mono ?_; rintro e w5 ⟨ov, fs, l, rfl, hF, ho5, hl16, hcnt5, hT5, hb5⟩; have HF := Lib.hid hF; have HO5 := Lib.hid ho5; have HT5 := Lib.hid hT5; have hl32 : l < 4294967296 := (by omega); clear hF ho5 hT5)
    | (go_at_call 45; refine (numbers_any _ l rfl hl32 _ HT5.out).mono ?_; rintro e w6 ⟨lv, rfl, ho6, hb6⟩; have HO6 := Lib.hid ho6; clear ho6))
  go_ret2
  have sA := hbA.out.size
  have s2 := hb2.size
  have s3 := hb3.size
  have s5 := hb5.size
  have hb := ((hbA.out.trans (hb2.mono sA)).trans (hb3.mono (by omega))).trans (hb5.mono (by omega))
  have hb' := hb.trans (hb6.mono (by omega))
  have hP := HF.out
  rw [HMAL.out] at hP
  exact ⟨_, _, fs, natInts (bitsOf l), rfl, .inl ⟨Hok.out, hP⟩, ownsRow_below (ownsRow_base HO5.out (by omega)) hb6, by rw [natInts_length]; exact ownsRow_base HO6.out (by omega), by omega, by rw [natInts_length]; omega, hb'⟩

end Go.Proofs.YtfokiijcpkhllaaDoor
