/- Walk: the program folds. -/
import Derived.Test.YtfokiijcpkhllaaDoorDsQ13
namespace Go.Proofs.YtfokiijcpkhllaaDoor
open Go.RowKit

/-- Sets of neighbours that the walk can go on with. -/
structure NOk (a : List Nat) (left : Nat) : Prop where
  le : a.length ≤ 16
  lt : ∀ s ∈ a, s < 65536
  left16 : left < 65536
  inn : ∀ v, left.testBit v = true → v < a.length

theorem near_in {a : List Nat} {left v : Nat} (h : NOk a left) : ∀ x ∈ nearL a left v, ∃ i : Nat, x = (i : Int) ∧ i < a.length := by
  intro x hx
  obtain ⟨i, rfl, _, h2⟩ := (mem_near h.left16).1 hx
  exact ⟨i, rfl, h.inn i h2⟩

theorem NOk.pair {a : List Nat} {left v : Nat} (h : NOk a left) (h2 : (nearL a left v).length ≤ 2) {f : Fd} (hf : f = atRow v (nearL a left v)) (hB : 0 ≤ f.B) :
    ∃ p q : Nat, f.A = p ∧ f.B = q ∧ p < a.length ∧ q < a.length ∧ p ≠ q := by
  obtain ⟨_, hAB⟩ := atRow_cases (v : Int) (near_rising a left v) h2 (fun x hx => by obtain ⟨i, rfl, _⟩ := near_in h x hx; omega)
  rw [← hf] at hAB
  rcases hAB with ⟨k, _⟩ | ⟨hA, hB', h3, h4, h5⟩
  · omega
  · obtain ⟨p, hp, hpl⟩ := near_in h _ hA
    obtain ⟨q, hq, hql⟩ := near_in h _ hB'
    exact ⟨p, q, hp, hq, hpl, hql, by omega⟩

theorem NOk.away {a : List Nat} {left v : Nat} (h : NOk a left) (hv : left.testBit v = true) (h2 : (nearL a left v).length ≤ 2) {f : Fd} (hf : f = atRow v (nearL a left v)) : NOk (awayL a f) (sub left (2 ^ v)) := by
  have hle := h.le
  have hvl := h.inn v hv
  refine ⟨by rw [awayL_length]; exact hle, ?_, sub_lt16 _ _ h.left16, fun u hu => ?_⟩
  · by_cases hB : 0 ≤ f.B
    · obtain ⟨p, q, hp, hq, hpl, hql, _⟩ := h.pair h2 hf hB
      have e : awayL a f = joinL a p q := by
        show (if _ then _ else _) = _
        rw [if_pos hB, hp, hq, Int.toNat_natCast, Int.toNat_natCast]
      rw [e]
      exact joinL_lt16 h.lt (by omega) (by omega)
    · have e : awayL a f = a := if_neg hB
      rw [e]; exact h.lt
  · rw [awayL_length]
    exact h.inn u ((testBit_sub1 h.left16 (by omega) u).1 hu).1

theorem bits_sub_lt {left v : Nat} (h : left < 65536) (hv : left.testBit v = true) (h16 : v < 16) : (bitsOf (sub left (2 ^ v))).length < (bitsOf left).length := by
  have h1 := list_sub h h16
  have h2 : ((v : Nat) : Int) ∈ natInts (bitsOf left) := mem_natInts.2 ⟨v, (mem_left h).2 hv, rfl⟩
  have h3 := lessL_length_lt h2
  rw [h1, natInts_length, natInts_length] at h3
  exact h3

/-- What the loop of the program carries. -/
structure FInv (w wr : World) (base : Nat) (x ov : Value) (a0 : List Nat) (left0 : Nat) (a : List Nat) (lf : Nat) (os : List Fd) : Prop where
  ok : NOk a lf
  net : wr.ownsRow base 64 1 x a.length (a.map u32v)
  own : wr.ownsRow w.heap.size 89 3 ov os.length (fdCells os)
  gr : w.grownBy wr x.ownBlock
  on : FoldsOnN a0 left0 os lf a
  cnt : os.length + (bitsOf lf).length ≤ 16
  len : a.length = a0.length
  tab : Tab wr

theorem FInv.next {w wr W : World} {base : Nat} {x ov : Value} {a0 : List Nat} {left0 : Nat} {a : List Nat} {lf : Nat} {os : List Fd} (h : FInv w wr base x ov a0 left0 a lf os) (hb : Below wr.heap.size wr W) : FInv w W base x ov a0 left0 a lf os where
  ok := h.ok
  net := ownsRow_below h.net hb
  own := ownsRow_below h.own hb
  gr := grown_trans h.gr (grown_of_below hb _)
  on := h.on
  cnt := h.cnt
  len := h.len
  tab := h.tab.keep hb

theorem grown_own {w w' w'' : World} {E : TypeId} {size n : Nat} {v : Value} {xs : List Value} {r : Option Nat} (h : w.grownBy w' r) (ho : w'.ownsRow w.heap.size E size v n xs) (hg : w'.grownBy w'' v.ownBlock) : w.grownBy w'' r :=
  ⟨hg.os.trans h.os, hg.tape.trans h.tape, hg.output.trans h.output, Nat.le_trans h.size hg.size, fun k hk hne => (hg.block k (Nat.lt_of_lt_of_le hk h.size) (fun e => by have := (ho.lt k e.symm).1; omega)).trans (h.block k hk hne)⟩

theorem foldOf_yes' (p : Option Addr) (c n : Nat) (y z : Int) (a : List Nat) (left v : Nat) (hn : a.length = n) (hy : y = left) (hz : z = v) (hok : NOk a left) (hv : v < a.length) (w : World)
    (hx : Sl w 64 (.slice p n c) n (a.map u32v)) (hT : Tab w) (h2 : (nearL a left v).length ≤ 2) (V A B : Int) (hf : (⟨V, A, B⟩ : Fd) = atRow v (nearL a left v)) :
    Calls Tryd.prog 72 #[.slice p n c, .int .u32 y, .int .i64 z] w fun e w' => e = .returned (.tuple #[.agg #[.int .i64 V, .int .i64 A, .int .i64 B], .bool true]) ∧ Below w.heap.size w w' := by
  subst hn
  exact foldOf_yes p c y z a left v hy hz hv hok.le hok.lt hok.left16 w hx hT h2 V A B hf
theorem foldOf_no' (p : Option Addr) (c n : Nat) (y z : Int) (a : List Nat) (left v : Nat) (hn : a.length = n) (hy : y = left) (hz : z = v) (hok : NOk a left) (hv : v < a.length) (w : World)
    (hx : Sl w 64 (.slice p n c) n (a.map u32v)) (hT : Tab w) (h2 : ¬ (nearL a left v).length ≤ 2) :
    Calls Tryd.prog 72 #[.slice p n c, .int .u32 y, .int .i64 z] w fun e w' => e = .returned (.tuple #[.agg #[.int .i64 0, .int .i64 0, .int .i64 0], .bool false]) ∧ Below w.heap.size w w' := by
  subst hn
  exact foldOf_no p c y z a left v hy hz hv hok.le hok.lt hok.left16 w hx hT h2

theorem Tab.grown {w w' : World} {r : Option Nat} (h : Tab w) (hg : w.grownBy w' r) (hr : some 0 ≠ r) : Tab w' := fun j hj => hg.cell (a := ⟨_, j, none⟩) (h j hj) hr

theorem Sl.shape {w : World} {E : TypeId} {v : Value} {n : Nat} {vals : List Value} (h : Sl w E v n vals) : ∃ p c, v = .slice p n c := by
  obtain ⟨p, c, e, _⟩ := h
  exact ⟨p, c, e⟩

set_option maxRecDepth 100000 in
set_option maxHeartbeats 4000000 in
theorem foldedOf_any (x : Value) (y : Int) (a0 : List Nat) (left0 base : Nat) (hy : y = left0) (hok : NOk a0 left0) (hcnt : (bitsOf left0).length ≤ 16) (w : World)
    (ho : w.ownsRow base 64 1 x a0.length (a0.map u32v)) (hT : Tab w) (hbase : 0 < base) :
    Calls Tryd.prog 63 #[x, .int .u32 y] w fun e w' => ∃ (ov : Value) (fs : List Fd) (l : Nat) (a' : List Nat), e = .returned (.tuple #[ov, .int .u32 (l : Int)]) ∧ FoldsN a0 left0 fs l a' ∧
      w'.ownsRow w.heap.size 89 3 ov fs.length (fdCells fs) ∧ w'.ownsRow base 64 1 x a'.length (a'.map u32v) ∧ a'.length = a0.length ∧ NOk a' l ∧ fs.length + (bitsOf l).length ≤ 16 ∧ w.grownBy w' x.ownBlock := by
  subst hy
  have hsl := Sl.of_owns ho (by have := hok.le; omega)
  obtain ⟨xp, xc, rfl⟩ := hsl.shape
  have hxl : ∀ b, (Value.slice xp a0.length xc).ownBlock = some b → b < w.heap.size ∧ base ≤ b := fun b hb => ⟨(ho.lt b hb).2, (ho.lt b hb).1⟩
  have hbA := below_alloc w (.cells #[] 89)
  have START := Lib.hid (show FInv w (w.alloc (.cells #[] 89)) base (.slice xp a0.length xc) (.slice (some ⟨w.heap.size, 0, none⟩) 0 0) a0 left0 a0 left0 [] from
    { ok := hok, net := ownsRow_below ho hbA, own := ownsRow_empty _ _ _, gr := grown_of_below hbA _, on := foldsOnN_start _ _, cnt := by simpa using hcnt, len := rfl, tab := hT.keep hbA })
  have htb : some 0 ≠ (Value.slice xp a0.length xc).ownBlock := fun e => by have := (hxl _ e.symm).2; omega
  have HX := Lib.hid hxl
  have HTB := Lib.hid htb
  have START2 := Lib.hid (show 0 < w.heap.size from hT.pos)
  clear hbA hsl ho hok hT hxl htb hcnt
  go_enter Tryd.func63, Tryd.ntmps63
  go_wp2
  go_loopw [1, 6, 7] (fun s1 s6 s7 wr => ∃ (a : List Nat) (lf : Nat) (os : List Fd) (found : Bool), s1 = .int .u32 (lf : Int) ∧ s7 = .bool found ∧ FInv w wr base (.slice xp a0.length xc) s6 a0 left0 a lf os ∧ (found = false → ∀ j (hj : j < (bitsOf lf).length), 2 < (nearL a lf (bitsOf lf)[j]).length))
    (fun s1 _ s7 _ => (bitsOf (intOf s1).toNat).length * 2 + (match s7 with | .bool true => 1 | _ => 0))
  case atStart => exact ⟨a0, left0, [], true, rfl, rfl, START.out, fun e => nomatch e⟩
  case round =>
    obtain ⟨a, lf, os, found, rfl, rfl, hinv, hstop⟩ := hrel
    clear START
    have Hinv := Lib.hid hinv
    have Hstop := Lib.hid hstop
    clear hinv hstop
    cases found with
    | false =>
      go_wp2
      go_ret2
      have hinv := Hinv.out
      exact ⟨_, os, lf, rfl, a, foldsOnN_stop hinv.on (Hstop.out trivial), hinv.own, hinv.net, hinv.len, hinv.ok, hinv.cnt, hinv.gr⟩
    | true =>
      have htab := Hinv.out.tab
      have hlf := Hinv.out.ok.left16
      have hlf32 : lf < 4294967296 := by omega
      have hc16 := Hinv.out.cnt
      go_wp2_with (go_at_call 48; refine (list_any _ lf rfl hlf32 _ htab).mono ?_; rintro e w2 ⟨lv, rfl, hown2, hb2⟩; have hnl := Nums.of_owns hown2 (natInts_length _).symm (by omega); obtain ⟨lp, lc, rfl, _, _, _, hat⟩ := hnl.shape; rw [natInts_length])
      clear hc16 htab
      have hinv2 := Hinv.out
      obtain ⟨ov, hov⟩ : ∃ ov, ov = u6 := ⟨_, rfl⟩
      subst hov
      go_loopw [1, 6, 7, 9, 17] (fun s1 s6 s7 _ i wx => ∃ j : Nat, j ≤ (bitsOf lf).length ∧ i = .int .i64 j ∧ s1 = .int .u32 (lf : Int) ∧ s6 = ov ∧ s7 = .bool false ∧ (∀ i (hi : i < (bitsOf lf).length), i < j → 2 < (nearL a lf (bitsOf lf)[i]).length) ∧ Below w2.heap.size w2 wx) (fun _ _ _ _ i _ => (bitsOf lf).length - (intOf i).toNat)
      case atStart => exact ⟨0, Nat.zero_le _, rfl, rfl, rfl, rfl, fun i hi h => by omega, Below.refl _ _⟩
      case round =>
        obtain ⟨j, hj, rfl, rfl, rfl, rfl, hbad, hbx⟩ := hrel
        have hinvx := hinv2.next (hb2.trans (hbx.mono hb2.size))
        clear hinv2
        have HB := Lib.hid hbad
        clear hbad
        by_cases hlt : j < (bitsOf lf).length
        · obtain ⟨v, hv⟩ : ∃ v : Nat, v = (bitsOf lf)[j] := ⟨_, rfl⟩
          have hvb : lf.testBit v = true := (mem_left hlf).1 (hv ▸ List.getElem_mem hlt)
          have hvl := hinvx.ok.inn v hvb
          have hjl : j < (natInts (bitsOf lf)).length := by rw [natInts_length]; exact hlt
          obtain ⟨lb, lo, rfl, hcl⟩ := (hat.below hbx).num hjl
          have hval : (natInts (bitsOf lf))[j] = (v : Int) := by rw [hv]; simp [natInts]
          rw [hval] at hcl
          have hsl := hinvx.net
          have hle := hinvx.ok.le
          have hsl := Sl.of_owns hsl (by omega)
          rw [hinvx.len] at hsl
          have HV := Lib.hid hv
          have HI := Lib.hid hinvx
          have HS := Lib.hid hsl
          have hcnt := hinvx.cnt
          clear hval hv hinvx hsl hat
          by_cases h2 : (nearL a lf v).length ≤ 2
          · obtain ⟨⟨V, A, B⟩, hf⟩ : ∃ f : Fd, f = atRow (v : Int) (nearL a lf v) := ⟨_, rfl⟩
            have HF := Lib.hid hf
            have HP := Lib.hid (HI.out.ok.pair h2 hf)
            have HA := Lib.hid (HI.out.ok.away hvb h2 hf)
            have H2 := Lib.hid h2
            clear hf h2
            have hand := Lib.hid (u32_andNot_nat lf (2 ^ v) hlf32 (pow_lt32 v (by omega)))
            have hv32 : v < 32 := by omega
            have hos : os.length < 1000000000 := by omega
            go_wp2_with (first
              | (go_at_call 72; refine (foldOf_yes' _ _ _ _ _ a lf v HI.out.len rfl rfl HI.out.ok hvl _ HS.out HI.out.tab H2.out V A B HF.out).mono ?_; rintro e w4 ⟨rfl, hb4⟩; have s4 := hb4.size; have HI4 := Lib.hid ((HI.out.next hb4).next (below_alloc w4 (.cells #[.int .i64 V, .int .i64 A, .int .i64 B] 89))); have hne4 : some w4.heap.size ≠ (Value.slice xp a0.length xc).ownBlock := fun e => (by have := (HX.out _ e.symm).1; have := HI.out.gr.size; omega))
              | (go_at_call 73; refine (foldAway_any _ a ⟨V, A, B⟩ base HI.out.ok.le HI.out.ok.lt HP.out _ HI4.out.net).mono ?_; rintro e w6 ⟨rfl, hown6, hg6⟩; obtain ⟨z0, z1, z2⟩ := cell_new3 w4 (.int .i64 V) (.int .i64 A) (.int .i64 B) 89; have y0 := hg6.cell z0 hne4; have y1 := hg6.cell z1 hne4; have y2 := hg6.cell z2 hne4; have o6 := ownsRow_other HI4.out.own HI4.out.net hg6 (by decide))
              | (at_builtin; refine wpList_appE ty_folds rfl rfl rfl o6 rfl rfl (by simp [Value.oneCell']) hos (by have := HI4.out.gr.size; have := hg6.size; omega) ?_; intro b7 c7 w7 hown7 hg7 _ _)
              | (go_at_call 74; refine (one_any _ v rfl hv32 _).mono ?_; rintro e w8 ⟨rfl, rfl⟩))
            have h2p : (2 : Int) ^ v = ((2 ^ v : Nat) : Int) := by simp
            have hand' : bits BinOp.andNot IntKind.u32 (lf : Int) (2 ^ v) = ((sub lf (2 ^ v) : Nat) : Int) := by rw [h2p]; exact hand.out
            have hvv := HV.out
            have hf := HF.out
            go_roundw
            case rel =>
              have hon := foldsOnN_step HI.out.on hlt HB.out (by rw [← hvv]; exact H2.out)
              rw [← hvv, ← hf] at hon
              have hgr6 := grown_trans HI4.out.gr hg6
              have hl := bits_sub_lt hlf hvb (by omega)
              exact ⟨awayL a ⟨V, A, B⟩, sub lf (2 ^ v), os ++ [⟨V, A, B⟩], true, val_int hand', rfl,
                { ok := HA.out, net := ownsRow_other hown6 o6 hg7 (by decide), own := by rw [fdCells_snoc, List.length_append]; exact hown7, gr := grown_own hgr6 o6 hg7, on := hon
                  cnt := by rw [List.length_append]; simp; omega, len := by rw [awayL_length]; exact HI.out.len
                  tab := (HI4.out.tab.grown hg6 HTB.out).grown hg7 (fun e => by have := (o6.lt _ e.symm).1; have := START2.out; omega) }, fun e => nomatch e⟩
            case measure =>
              have hl := bits_sub_lt hlf hvb (by omega)
              rw [hand']
              simp [intOf]
              omega
          · have H2 := Lib.hid h2
            clear h2
            go_wp2_with (go_at_call 72; refine (foldOf_no' _ _ _ _ _ a lf v HI.out.len rfl rfl HI.out.ok hvl _ HS.out HI.out.tab H2.out).mono ?_; rintro e w4 ⟨rfl, hb4⟩)
            go_roundw
            case rel =>
              refine ⟨j + 1, by omega, by go_num, rfl, rfl, rfl, fun i hi h => ?_, hbx.trans ((hb4.alloc hb4.size _).mono hbx.size)⟩
              by_cases e : i = j
              · subst e; rw [← HV.out]; have := H2.out; omega
              · exact HB.out i hi (by omega)
            case measure => simp [intOf]; omega
        · obtain rfl : j = (bitsOf lf).length := by omega
          have HI := Lib.hid hinvx
          clear hinvx
          go_wp2
          go_roundw
          case rel => exact ⟨a, lf, os, false, rfl, rfl, HI.out, fun _ i hi => HB.out i hi hi⟩
          case measure => simp

end Go.Proofs.YtfokiijcpkhllaaDoor

/- Walks: the program's isSeries, SeriesIn, FoldedOf, TwoOrder. -/
namespace Go.Proofs.YtfokiijcpkhllaaDoor
open Go.RowKit

theorem all_any' (p : Option Addr) (n c M : Nat) (hn : n < 32) (hM : M = 2 ^ n - 1) (w : World) :
    Calls Tryd.prog 46 #[.slice p n c] w fun e w' => e = .returned (.int .u32 (M : Int)) ∧ w = w' := by
  subst hM; exact all_any p n c hn w

theorem bits_nil {l : Nat} (h : l < 65536) : (bitsOf l).length = 0 ↔ l = 0 := by
  constructor
  · intro e
    by_cases h0 : l = 0
    · exact h0
    · have := bitsOf_step l h0 (by omega)
      rw [this] at e
      simp at e
  · rintro rfl; rw [bitsOf_zero]; rfl

theorem nOk_start {g : List (List Int)} (h : GOk g) {M : Nat} (hM : M = 2 ^ g.length - 1) : NOk (netL g) M ∧ (bitsOf M).length ≤ 16 ∧ (netL g).length = g.length := by
  subst hM
  have hs := same_start h
  refine ⟨⟨hs.le, hs.lt, hs.left16, hs.inn⟩, ?_, hs.len.symm⟩
  have := natInts_range g.length h.le
  rw [← natInts_length, this, allL_length]
  exact h.le

theorem foldsN_S {g : List (List Int)} (h : GOk g) {M : Nat} (hM : M = 2 ^ g.length - 1) {fs : List Fd} {l : Nat} {a' : List Nat} (hf : FoldsN (netL g) M fs l a') : ∃ g', Folds g (allL g.length) fs (natInts (bitsOf l)) g' := by
  subst hM
  obtain ⟨g', h1, _⟩ := hf.same (same_start h)
  exact ⟨g', h1⟩

set_option maxRecDepth 100000 in
set_option maxHeartbeats 2000000 in
theorem isSeries_any (x : Value) (y : Int) (a : List Nat) (s : Nat) (hy : y = s) (hok : NOk a s) (hcnt : (bitsOf s).length ≤ 16) (w : World) (hx : Sl w 64 x a.length (a.map u32v)) (hT : Tab w) :
    Calls Tryd.prog 64 #[x, .int .u32 y] w fun e w' => ∃ (fs : List Fd) (l : Nat) (a' : List Nat), e = .returned (.bool (dec (l = 0))) ∧ FoldsN a s fs l a' ∧ l < 65536 ∧ Below w.heap.size w w' := by
  subst hy
  have hbA := below_alloc w (.cells #[] 64)
  have hx1 := hx.below hbA
  have ho := ownsRow_empty w 64 1
  have hT1 := hT.keep hbA
  have hle := hok.le
  have hpos := hT.pos
  have hsz := hbA.size
  have h1 : ∀ v ∈ a.map u32v, v.oneCell' = true := by
    intro v hv
    obtain ⟨i, _, rfl⟩ := List.mem_map.1 hv
    rfl
  obtain ⟨p, c, rfl⟩ := hx.shape
  have HOK := Lib.hid hok
  have HC := Lib.hid hcnt
  clear hok hx hT hcnt
  go_enter Tryd.func64, Tryd.ntmps64
  go_wp2_with (first
    | (at_builtin; refine wpList_app ty_nets rfl rfl rfl ho rfl hx1 (by simp) h1 (by omega) hsz ?_; intro v' w1 hown1 hg1 _; simp only [Nat.zero_add, List.nil_append] at hown1; have HB1 := Lib.hid (below_grown hbA ho hg1 (Nat.le_refl _) hsz); have HT1 := Lib.hid (hT1.grown hg1 (fun e => by have := (ho.lt _ e.symm).1; omega)))
    | (go_at_call 63; refine (foldedOf_any _ _ a s w.heap.size rfl HOK.out HC.out _ hown1 HT1.out hpos).mono ?_; rintro e w2 ⟨ov, fs, l, a', rfl, hF, _, _, _, hok2, _, hg2⟩; have HF := Lib.hid hF; have HB2 := Lib.hid (below_grown HB1.out hown1 hg2 (Nat.le_refl _) HB1.out.size); have hl := hok2.left16; clear hF hok2))
  by_cases hz : l = 0
  · subst hz
    go_wp2
    go_ret
    exact ⟨fs, 0, a', by rw [dec_true rfl]; rfl, HF.out, hl, HB2.out⟩
  · have hz2 : ((l : Int) == 0) = false := by simpa using hz
    go_wp2
    go_ret
    exact ⟨fs, l, a', by rw [dec_false hz, ← hz2]; rfl, HF.out, hl, HB2.out⟩

set_option maxRecDepth 100000 in
set_option maxHeartbeats 2000000 in
theorem implSeriesIn_any (v : Value) (g : List (List Int)) (w : World) (hg : Gr w v g) (hT : Tab w) :
    Calls Tryd.prog 19 #[v] w fun e w' => e = .returned (.bool (dec (SerS g))) ∧ Below w.heap.size w w' := by
  have hg0 := hg
  obtain ⟨u, rfl, hr⟩ := hg
  obtain ⟨p, c, rfl, _, _, _⟩ := hr.shape
  have hbA := Lib.hid (below_alloc w (.cells #[.slice p g.length c] 29))
  have HG := Lib.hid (hg0.below hbA.out)
  have BX := Lib.hid (Box.new w (.slice p g.length c) 29)
  have HT := Lib.hid (hT.keep hbA.out)
  have hpos := hT.pos
  clear hr hg0 hT
  by_cases hok : GOk g
  case neg =>
    have hd := dec_false hok
    have Hok := Lib.hid hok
    clear hok
    go_enter Tryd.func19, Tryd.ntmps19
    go_wp2_with (go_at_call 38; refine (implGraphOk_any _ g _ HG.out).mono ?_; rintro e w2 ⟨rfl, hb2⟩)
    go_ret
    exact ⟨by rw [dec_false (fun h => Hok.out h.1)]; rfl, hbA.out.trans (hb2.mono hbA.out.size)⟩
  have hd := dec_true hok
  obtain ⟨M, hM⟩ : ∃ M, M = 2 ^ g.length - 1 := ⟨_, rfl⟩
  obtain ⟨hn1, hn2, hn3⟩ := nOk_start hok hM
  have hle := hok.le
  have HM := Lib.hid hM
  have N1 := Lib.hid hn1
  have N2 := Lib.hid hn2
  have N3 := Lib.hid hn3
  have Hok := Lib.hid hok
  clear hok hM hn1 hn2 hn3
  go_enter Tryd.func19, Tryd.ntmps19
  go_wp2_with (first
    | (go_at_call 38; refine (implGraphOk_any _ g _ HG.out).mono ?_; rintro e w2 ⟨rfl, hb2⟩; have hbx := (BX.out.keep hb2).cell; have s2 := hb2.size)
    | (go_at_call 41; refine (netsOf_any _ g _ (HG.out.below hb2) Hok.out).mono ?_; rintro e w3 ⟨x, rfl, hown3, hb3⟩; have hx3 := Sl.of_owns hown3 (by omega); obtain ⟨xp, xc, rfl⟩ := hx3.shape; have HX3 := Lib.hid hx3; have HT3 := Lib.hid ((HT.out.keep hb2).keep hb3); clear hx3 hown3)
    | (go_at_call 46; refine (all_any' _ _ _ M (by omega) HM.out _).mono ?_; rintro e w4 ⟨rfl, rfl⟩)
    | (go_at_call 64; refine (isSeries_any _ _ (netL g) M rfl N1.out N2.out _ (by rw [N3.out]; exact HX3.out) HT3.out).mono ?_; rintro e w5 ⟨fs, l, a', rfl, hF, hl65, hb5⟩; have HF := Lib.hid hF; clear hF))
  go_ret
  have hb := ((hbA.out.trans (hb2.mono hbA.out.size)).trans (hb3.mono (by have := hbA.out.size; omega))).trans (hb5.mono (by have := hbA.out.size; have := hb3.size; omega))
  obtain ⟨g', hF⟩ := foldsN_S Hok.out HM.out HF.out
  refine ⟨?_, hb⟩
  have e : dec (l = 0) = dec (SerS g) := dec_congr (by rw [serS_iff Hok.out hF, natInts_length]; exact (bits_nil (by omega)).symm)
  rw [← e]; rfl

set_option maxRecDepth 100000 in
set_option maxHeartbeats 2000000 in
theorem implFoldedOf_any (v : Value) (g : List (List Int)) (w : World) (hg : Gr w v g) (hT : Tab w) :
    Calls Tryd.prog 18 #[v] w fun e w' => ∃ (ov lv : Value) (fs : List Fd) (l : List Int), e = .returned (.tuple #[ov, lv]) ∧ FoldedS g fs l ∧
      w'.ownsRow w.heap.size 89 3 ov fs.length (fdCells fs) ∧ w'.ownsRow w.heap.size 2 1 lv l.length (l.map (Value.int .i64)) ∧ fs.length ≤ 16 ∧ l.length ≤ 16 ∧ Below w.heap.size w w' := by
  have hg0 := hg
  obtain ⟨u, rfl, hr⟩ := hg
  obtain ⟨p, c, rfl, _, _, _⟩ := hr.shape
  have hbA := Lib.hid (below_alloc w (.cells #[.slice p g.length c] 29))
  have HG := Lib.hid (hg0.below hbA.out)
  have BX := Lib.hid (Box.new w (.slice p g.length c) 29)
  have HT := Lib.hid (hT.keep hbA.out)
  have hpos := hT.pos
  clear hr hg0 hT
  by_cases hok : GOk g
  case neg =>
    have hd := dec_false hok
    have Hok := Lib.hid hok
    clear hok
    go_enter Tryd.func18, Tryd.ntmps18
    go_wp2_with (go_at_call 38; refine (implGraphOk_any _ g _ HG.out).mono ?_; rintro e w2 ⟨rfl, hb2⟩)
    go_ret2
    exact ⟨_, _, [], [], rfl, .inr ⟨Hok.out, rfl, rfl⟩, ⟨rfl, .inl ⟨rfl, rfl⟩⟩, ⟨rfl, .inl ⟨rfl, rfl⟩⟩, by simp, by simp, hbA.out.trans (hb2.mono hbA.out.size)⟩
  have hd := dec_true hok
  obtain ⟨M, hM⟩ : ∃ M, M = 2 ^ g.length - 1 := ⟨_, rfl⟩
  obtain ⟨hn1, hn2, hn3⟩ := nOk_start hok hM
  have hle := hok.le
  have HM := Lib.hid hM
  have N1 := Lib.hid hn1
  have N2 := Lib.hid hn2
  have N3 := Lib.hid hn3
  have Hok := Lib.hid hok
  clear hok hM hn1 hn2 hn3
  go_enter Tryd.func18, Tryd.ntmps18
  go_wp2_with (first
    | (go_at_call 38; refine (implGraphOk_any _ g _ HG.out).mono ?_; rintro e w2 ⟨rfl, hb2⟩; have hbx := (BX.out.keep hb2).cell; have s2 := hb2.size)
    | (go_at_call 41; refine (netsOf_any _ g _ (HG.out.below hb2) Hok.out).mono ?_; rintro e w3 ⟨x, rfl, hown3, hb3⟩; have hx3 := Sl.of_owns hown3 (by omega); obtain ⟨xp, xc, rfl⟩ := hx3.shape; have HX3 := Lib.hid hown3; have HT3 := Lib.hid ((HT.out.keep hb2).keep hb3); clear hx3 hown3)
    | (go_at_call 46; refine (all_any' _ _ _ M (by omega) HM.out _).mono ?_; rintro e w4 ⟨rfl, rfl⟩)
    | (go_at_call 63; refine (foldedOf_any _ _ (netL g) M w2.heap.size rfl N1.out N2.out _ (by rw [N3.out]; exact HX3.out) HT3.out (by rw [size_alloc] at s2; omega)).mono ?_; rintro e w5 ⟨ov, fs, l, a', rfl, hF, ho5, _, _, hok5, hcnt5, hg5⟩; have HF := Lib.hid hF; have HO5 := Lib.hid ho5; have hl16 := hok5.left16; have HB5 := Lib.hid (below_grown (Below.refl w2.heap.size w3) HX3.out hg5 (Nat.le_refl _) hb3.size); have HT5 := Lib.hid (HT3.out.below HB5.out (by rw [size_alloc] at s2; omega)); have hl32 : l < 4294967296 := (by omega); clear hF ho5 hok5)
    | (go_at_call 45; refine (numbers_any _ l rfl hl32 _ HT5.out).mono ?_; rintro e w6 ⟨lv, rfl, ho6, hb6⟩; have HO6 := Lib.hid ho6; clear ho6))
  go_ret2
  have s3 := hb3.size
  have s5 := HB5.out.size
  have sA := hbA.out.size
  have s5' := hg5.size
  have hb := ((hbA.out.trans (hb2.mono sA)).trans (hb3.mono (by omega))).trans (HB5.out.mono (by omega))
  have hb' := hb.trans (hb6.mono (by omega))
  obtain ⟨g', hF⟩ := foldsN_S Hok.out HM.out HF.out
  exact ⟨_, _, fs, natInts (bitsOf l), rfl, .inl ⟨Hok.out, g', hF⟩, ownsRow_below (ownsRow_base HO5.out (by omega)) hb6, by rw [natInts_length]; exact ownsRow_base HO6.out (by omega), by omega, by rw [natInts_length]; omega, hb'⟩

end Go.Proofs.YtfokiijcpkhllaaDoor
