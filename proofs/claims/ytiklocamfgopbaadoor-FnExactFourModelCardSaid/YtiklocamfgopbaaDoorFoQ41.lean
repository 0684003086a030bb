/- Walk: cutting or contracting once, as the program does it. -/
import Derived.Test.YtiklocamfgopbaaDoorFoQ40
namespace Go.Proofs.YtiklocamfgopbaaDoor
open Go.RowKit

theorem Same.nok {g : List (List Int)} {L : List Int} {a : List Nat} {left : Nat} (h : Same g L a left) : NOk a left := ⟨h.le, h.lt, h.left16, h.inn⟩
theorem bits_get {l : List Nat} {k : Nat} (h : k < (natInts l).length) : (natInts l)[k] = ((l[k]'(by rw [natInts_length] at h; exact h) : Nat) : Int) := by simp [natInts]

/-- What one step of the program's shrinking comes to. -/
inductive ShrS (g : List (List Int)) (L : List Int) (a ms : List Nat) (left : Nat) (base : Nat) (x sv : Value) (w w' : World) (r : Value) (l' : Nat) (ok : Bool) : Prop
  | stop (h1 : ok = false) (h2 : r = x) (h3 : l' = left) (h4 : lessOf g L = none) (h5 : edgeOf g L = none) (h6 : Below w.heap.size w w')
  | less (h1 : ok = true) (h2 : r = x) (z : Nat) (h3 : lessOf g L = some (z : Int)) (hz : left.testBit z = true) (h4 : l' = sub left (2 ^ z)) (h6 : Below w.heap.size w w')
  | edge (h1 : ok = true) (u v : Nat) (h2 : lessOf g L = none) (h3 : edgeOf g L = some ((u : Int), (v : Int))) (hu : left.testBit u = true) (hv : left.testBit v = true) (huv : u ≠ v) (h4 : l' = sub left (2 ^ v))
      (h5 : w'.ownsRow w.heap.size 56 1 r a.length ((contrL a left u v).map u32v)) (h6 : w'.ownsRow base 56 1 sv ms.length ((ms.set u (ms.getD u 0 ||| ms.getD v 0)).map u32v)) (h7 : w.grownBy w' sv.ownBlock)

set_option maxRecDepth 100000 in
set_option maxHeartbeats 4000000 in
theorem shrink_any (x sv : Value) (y : Int) (g : List (List Int)) (L : List Int) (a ms : List Nat) (left base : Nat) (hy : y = left) (hS : Same g L a left) (hr : RG g) (hml : ms.length = a.length) (hms : ∀ s ∈ ms, s < 65536) (w : World)
    (hx : Sl w 56 x a.length (a.map u32v)) (hs : w.ownsRow base 56 1 sv ms.length (ms.map u32v)) (hT : Tab w) :
    Calls Tryd.prog 35 #[x, .int .u32 y, sv] w fun e w' => ∃ (r : Value) (l' : Nat) (ok : Bool), e = .returned (.tuple #[r, .int .u32 (l' : Int), .bool ok]) ∧ ShrS g L a ms left base x sv w w' r l' ok := by
  subst hy
  have HS := Lib.hid hS
  have HX := Lib.hid hx
  have HSV := Lib.hid hs
  have HT := Lib.hid hT
  have HR := Lib.hid hr
  obtain ⟨xp, xc, rfl⟩ := hx.shape
  obtain ⟨svp, svc, rfl⟩ := own_shapeN hs
  have h16 := hS.le
  have hl65 := hS.left16
  have hl32 : left < 4294967296 := by omega
  obtain ⟨ls, hls⟩ : ∃ ls, ls = bitsOf left := ⟨_, rfl⟩
  have HLS := Lib.hid hls
  have HLL : Hid (L = natInts ls) := Lib.hid (by rw [hS.list, hls])
  have hcnt : ls.length ≤ 16 := by rw [hls]; exact hS.cnt
  have HML := Lib.hid hml
  have HMS := Lib.hid hms
  have LIST : Hid (∀ (w : World) (_ : Tab w), Calls Tryd.prog 36 #[.int .u32 (left : Int)] w fun e w' => ∃ v, e = .returned v ∧ w'.ownsRow w.heap.size 3 1 v ls.length ((natInts ls).map (Value.int .i64)) ∧ Below w.heap.size w w') := Lib.hid (fun w hT => by rw [hls]; exact list_any _ left rfl hl32 w hT)
  clear hS hx hs hT hr hls hml hms
  go_enter Tryd.func35, Tryd.ntmps35
  go_wp2_with (go_at_call 36; refine (LIST.out _ HT.out).mono ?_; rintro e w1 ⟨lv, rfl, ho1, hb1⟩; have hn1 := Nums.of_owns ho1 (natInts_length _).symm (by omega); obtain ⟨lp, lc, rfl, _⟩ := id hn1; rw [natInts_length] at hn1 ⊢; have HN1 := Lib.hid hn1; have HB1 := Lib.hid hb1; clear ho1 hb1 hn1)
  go_loopw [19] (fun i wr => ∃ k : Nat, k ≤ ls.length ∧ i = .int .i64 k ∧ Below w.heap.size w wr ∧ Nums wr 3 .i64 (.slice lp ls.length lc) (natInts ls) ∧ Hid (lessOf g L = (L.drop k).find? (fun v => dec (HardS (freeG g v) (lessL L v))))) (fun i _ => ls.length - (intOf i).toNat)
  case atStart => exact ⟨0, Nat.zero_le _, rfl, HB1.out, HN1.out, Lib.hid rfl⟩
  case round =>
    clear HN1 HB1
    obtain ⟨k, hk, rfl, hb, hn, HE⟩ := hrel
    have HB := Lib.hid hb
    have HN := Lib.hid hn
    clear hb
    by_cases hlt : k < ls.length
    · obtain ⟨m, hm⟩ : ∃ m, m = ls[k] := ⟨_, rfl⟩
      have hmb : left.testBit m = true := (mem_left hl65).1 (by rw [← HLS.out, hm]; exact List.getElem_mem hlt)
      have hma : m < a.length := HS.out.inn m hmb
      have hlt' : k < (natInts ls).length := by rw [natInts_length]; exact hlt
      obtain ⟨eb, eo, rfl, hce⟩ := hn.get hlt'
      rw [bits_get hlt', ← hm] at hce
      obtain ⟨pm, hpm⟩ : ∃ pm, pm = 2 ^ m := ⟨_, rfl⟩
      have hpl : pm < 4294967296 := by rw [hpm]; exact pow_lt32 m (by omega)
      have ONE : Hid (∀ w, Calls Tryd.prog 34 #[.int .i64 (m : Int)] w fun e w' => e = .returned (.int .u32 (pm : Int)) ∧ w = w') := Lib.hid (fun w => by rw [hpm]; exact one_any (m : Int) m rfl (by omega) w)
      have hand := u32_andNot_nat left pm hl32 hpl
      have HAND := Lib.hid hand
      have HFS : Hid (Same (freeG g m) (lessL L m) a (sub left pm)) := Lib.hid (by rw [hpm]; exact HS.out.free hmb)
      have HFi : Hid ((L.drop k).find? (fun v => dec (HardS (freeG g v) (lessL L v))) = if dec (HardS (freeG g m) (lessL L m)) = true then some (m : Int) else (L.drop (k + 1)).find? (fun v => dec (HardS (freeG g v) (lessL L v)))) := Lib.hid (by
        have e : L[k]'(by rw [HLL.out]; exact hlt') = (m : Int) := by
          have := bits_get hlt'
          rw [← hm] at this
          rw [← this]
          congr 1
        rw [find_drop (by rw [HLL.out]; exact hlt'), e])
      have HMB := Lib.hid hmb
      have HPM := Lib.hid hpm
      clear hn hand hlt' hm hmb hpm hpl
      by_cases hh : HardS (freeG g m) (lessL L m)
      · have HH := Lib.hid hh
        clear hh
        go_wp2_with (first
          | (go_at_call 34; refine (ONE.out _).mono ?_; rintro e w2 ⟨rfl, rfl⟩)
          | (go_at_call 61; refine (isSeries_any _ _ a (sub left pm) HAND.out HFS.out.nok HFS.out.cnt _ (HX.out.below HB.out) (HT.out.keep HB.out)).mono ?_; rintro e w5 ⟨fs, l', a', he, hF, hl6, hb5⟩; rw [dec_false ((HFS.out.hard hF hl6).1 HH.out)] at he; subst he; have HB5 := Lib.hid (HB.out.trans (hb5.mono HB.out.size)); clear hF hb5 hl6))
        go_ret3
        exact ⟨.slice xp a.length xc, sub left pm, true, congrArg (fun z : Int => Ending.returned (Value.tuple #[Value.slice xp a.length xc, Value.int .u32 z, Value.bool true])) HAND.out, .less rfl rfl m (by rw [HE.out, HFi.out, if_pos (dec_true HH.out)]) HMB.out (by rw [HPM.out]) HB5.out⟩
      · have HH := Lib.hid hh
        clear hh
        go_wp2_with (first
          | (go_at_call 34; refine (ONE.out _).mono ?_; rintro e w2 ⟨rfl, rfl⟩)
          | (go_at_call 61; refine (isSeries_any _ _ a (sub left pm) HAND.out HFS.out.nok HFS.out.cnt _ (HX.out.below HB.out) (HT.out.keep HB.out)).mono ?_; rintro e w5 ⟨fs, l', a', he, hF, hl6, hb5⟩; rw [dec_true (Classical.byContradiction fun c => HH.out ((HFS.out.hard hF hl6).2 c))] at he; subst he; have HB5 := Lib.hid (HB.out.trans (hb5.mono HB.out.size)); have HN5 := Lib.hid (HN.out.below hb5); clear hF hb5 hl6))
        go_roundw
        case rel => exact ⟨k + 1, by omega, by go_num, HB5.out, HN5.out, Lib.hid (by rw [HE.out, HFi.out, if_neg (by rw [dec_false HH.out]; decide)])⟩
        case measure => simp [intOf]; omega
    · obtain rfl : k = ls.length := by omega
      have HNO : Hid (lessOf g L = none) := Lib.hid (by rw [HE.out]; exact find_stop (by rw [HLL.out, natInts_length]; exact Nat.le_refl _))
      clear hn HN HE
      go_wp2_with (go_at_call 36; refine (LIST.out _ (HT.out.keep HB.out)).mono ?_; rintro e w2 ⟨lv2, rfl, ho2, hb2⟩; have hn2 := Nums.of_owns ho2 (natInts_length _).symm (by omega); obtain ⟨lp2, lc2, rfl, _⟩ := id hn2; rw [natInts_length] at hn2 ⊢; have HN2 := Lib.hid hn2; have HB2 := Lib.hid (HB.out.trans (hb2.mono HB.out.size)); clear ho2 hb2 hn2)
      go_loopw [39] (fun i wr => ∃ k : Nat, k ≤ ls.length ∧ i = .int .i64 k ∧ Below w.heap.size w wr ∧ Nums wr 3 .i64 (.slice lp2 ls.length lc2) (natInts ls) ∧ Hid (edgeOf g L = (L.drop k).findSome? (edgeF g L))) (fun i _ => ls.length - (intOf i).toNat)
      case atStart => exact ⟨0, Nat.zero_le _, rfl, HB2.out, HN2.out, Lib.hid rfl⟩
      case round =>
        clear HN2 HB2 HB
        obtain ⟨k, hk, rfl, hb, hn, HE⟩ := hrel
        have HB := Lib.hid hb
        have HN := Lib.hid hn
        by_cases hlt : k < ls.length
        · obtain ⟨m, hm⟩ : ∃ m, m = ls[k] := ⟨_, rfl⟩
          have hmb : left.testBit m = true := (mem_left hl65).1 (by rw [← HLS.out, hm]; exact List.getElem_mem hlt)
          have hma : m < a.length := HS.out.inn m hmb
          have hlt' : k < (natInts ls).length := by rw [natInts_length]; exact hlt
          obtain ⟨eb, eo, rfl, hce⟩ := hn.get hlt'
          rw [bits_get hlt', ← hm] at hce
          obtain ⟨ab, ao, hax, hca⟩ := nets_cell (HX.out.below hb) hma
          subst hax
          have hand := and_near HS.out.lt hma hl65
          have hnl : a.getD m 0 &&& left < 4294967296 := Nat.lt_of_le_of_lt Nat.and_le_right (by omega)
          have hp : 2 ^ (m + 1) - 1 < 4294967296 := by
            have : 2 ^ (m + 1) ≤ 2 ^ 16 := Nat.pow_le_pow_right (by decide) (by omega)
            have : (2 : Nat) ^ 16 = 65536 := by decide
            omega
          obtain ⟨fm, hfm⟩ : ∃ fm, fm = 2 ^ (m + 1) - 1 := ⟨_, rfl⟩
          rw [← hfm] at hp
          have hand3 : bits BinOp.andNot IntKind.u32 (bits BinOp.and IntKind.u32 (a[m] : Int) (left : Int)) (fm : Int) = ((sub (a.getD m 0 &&& left) fm : Nat) : Int) := by rw [hand]; exact u32_andNot_nat _ fm hnl hp
          have FIRST : Hid (∀ (z : Int), z = (m : Int) + 1 → ∀ w, Calls Tryd.prog 63 #[.int .i64 z] w fun e w' => e = .returned (.int .u32 (fm : Int)) ∧ w = w') := Lib.hid (fun z hz w => by rw [hfm]; exact firstOf_any z (m + 1) (by omega) (by omega) w)
          have WR : IntKind.i64.wrap ((m : Int) + 1) = (m : Int) + 1 := by rw [IntKind.wrap_i64]; omega
          obtain ⟨ns, hns⟩ : ∃ ns, ns = aboveN a left m := ⟨_, rfl⟩
          have LIST2 : Hid (∀ (w : World) (_ : Tab w), Calls Tryd.prog 36 #[.int .u32 (bits BinOp.andNot IntKind.u32 (bits BinOp.and IntKind.u32 (a[m] : Int) (left : Int)) (fm : Int))] w fun e w' => ∃ v, e = .returned v ∧ w'.ownsRow w.heap.size 3 1 v ns.length ((natInts ns).map (Value.int .i64)) ∧ Below w.heap.size w w') :=
            Lib.hid (fun w hT => by rw [hns, aboveN, ← hfm]; exact list_any _ _ hand3 (sub_lt32 _ _ hnl) w hT)
          have HER := Lib.hid (edgeRow_above HS.out hmb)
          rw [← hns] at HER
          have hnsl : ns.length ≤ 32 := by rw [hns]; exact bitsOf_length _
          have HNS : Hid (∀ v ∈ ns, left.testBit v = true ∧ m < v) := Lib.hid (by
            intro v hv
            have h1 : (v : Int) ∈ natInts (aboveN a left m) := by rw [← hns]; exact mem_natInts.2 ⟨v, hv, rfl⟩
            rw [above_rows HS.out hmb, List.mem_filter, HS.out.rows m hmb, mem_near hl65] at h1
            obtain ⟨⟨i, e, _, h2⟩, h3⟩ := h1
            have h3 := of_decide_eq_true h3
            exact ⟨by rw [← show i = v by omega]; exact h2, by omega⟩)
          have HMB := Lib.hid hmb
          have HSF : Hid ((L.drop k).findSome? (edgeF g L) = (edgeF g L m).or ((L.drop (k + 1)).findSome? (edgeF g L))) := Lib.hid (by
            have e : L[k]'(by rw [HLL.out]; exact hlt') = (m : Int) := by
              have := bits_get hlt'
              rw [← hm] at this
              rw [← this]
              congr 1
            rw [some_drop (by rw [HLL.out]; exact hlt'), e])
          have hma1 : (m : Int) + 1 < 9223372036854775807 := by omega
          clear hn hb hlt' hm hmb hand hand3 hnl hp hfm hns
          go_upto_region 10 with fail
          go_cut [53, 54, 55] (fun s53 s54 s55 wx => s54 = .int .i64 ns.length ∧ s55 = .int .i64 (0 : Nat) ∧ Below wr.heap.size wr wx ∧ Nums wx 3 .i64 s53 (natInts ns))
          case first =>
            go_region_held3 (fun w' => w'.cell? ⟨ab, ao + m, none⟩ = some (.int .u32 (a[m] : Int)))
              (first | exact hca | exact BWA.at' hca | go_keep)
              (first
                | (go_at_call 63; refine (FIRST.out _ (by first | rfl | exact WR | (rw [IntKind.wrap_i64]; omega)) _).mono ?_; rintro e w2 ⟨rfl, rfl⟩)
                | (go_at_call 36; refine (LIST2.out _ ((HT.out.keep HB.out).keep (below_dN (Below.refl _ _) 1))).mono ?_; rintro e w2 ⟨lv, rfl, hown2, hb2⟩; have HNL := Lib.hid (Nums.of_owns hown2 (natInts_length _).symm (by omega)); obtain ⟨lp3, lc3, rfl, _⟩ := id HNL.out; have BWA : Below wr.heap.size wr w2 := (below_dN (Below.refl _ _) 1).trans hb2; clear hown2 hb2))
            all_goals go_wp2
            all_goals go_meet
            all_goals exact ⟨by rw [natInts_length], rfl, BWA, HNL.out⟩
          case rest =>
            obtain ⟨rfl, rfl, hbc, hnl⟩ := hcut
            obtain ⟨lp3, lc3, rfl, _⟩ := id hnl
            rw [natInts_length] at hnl ⊢
            have HBC := Lib.hid (HB.out.trans (hbc.mono HB.out.size))
            have HNC := Lib.hid (HN.out.below hbc)
            have HNN := Lib.hid hnl
            clear hbc hnl hca hce FIRST LIST2 HB HN
            go_wp2_with fail
            go_loopw [55] (fun i wr => ∃ j : Nat, j ≤ ns.length ∧ i = .int .i64 j ∧ Below w.heap.size w wr ∧ Nums wr 3 .i64 (.slice (some ⟨eb, eo, none⟩) ls.length lc2) (natInts ls) ∧ Nums wr 3 .i64 (.slice lp3 ns.length lc3) (natInts ns) ∧ Hid (edgeRow g L m = ((natInts ns).drop j).find? (fun v => dec (HardS (joinG g m v) (lessL L v))))) (fun i _ => ns.length - (intOf i).toNat)
            case atStart => exact ⟨0, Nat.zero_le _, rfl, HBC.out, HNC.out, HNN.out, Lib.hid HER.out⟩
            case round =>
              clear HBC HNC HNN
              obtain ⟨j, hj, rfl, hb, hn1, hn, HEJ⟩ := hrel
              have HB := Lib.hid hb
              have HN1 := Lib.hid hn1
              have HN := Lib.hid hn
              clear hn1 hb
              by_cases hltj : j < ns.length
              · obtain ⟨q, hq⟩ : ∃ q, q = ns[j] := ⟨_, rfl⟩
                obtain ⟨hqb, hmq⟩ := HNS.out q (by rw [hq]; exact List.getElem_mem hltj)
                have hqa : q < a.length := HS.out.inn q hqb
                have hltj' : j < (natInts ns).length := by rw [natInts_length]; exact hltj
                obtain ⟨fb, fo, rfl, hcf⟩ := hn.get hltj'
                rw [bits_get hltj', ← hq] at hcf
                obtain ⟨pq, hpq⟩ : ∃ pq, pq = 2 ^ q := ⟨_, rfl⟩
                have hpl : pq < 4294967296 := by rw [hpq]; exact pow_lt32 q (by omega)
                have ONE : Hid (∀ w, Calls Tryd.prog 34 #[.int .i64 (q : Int)] w fun e w' => e = .returned (.int .u32 (pq : Int)) ∧ w = w') := Lib.hid (fun w => by rw [hpq]; exact one_any (q : Int) q rfl (by omega) w)
                have HAND := Lib.hid (u32_andNot_nat left pq hl32 hpl)
                have SJ : Hid (Same (joinG g m q) (lessL L q) (contrL a left m q) (sub left pq)) := Lib.hid (by rw [hpq]; exact HS.out.join HR.out HMB.out hqb (by omega))
                have HCL := Lib.hid (show (contrL a left m q).length = a.length by rw [contrL, tieN_length])
                have HTI : Hid (∀ i ∈ toTie a left m q, i < a.length) := Lib.hid (fun i hi => HS.out.inn i ((mem_toTie hl65 (by omega)).1 hi).2.1)
                have HFi : Hid (((natInts ns).drop j).find? (fun v => dec (HardS (joinG g m v) (lessL L v))) = if dec (HardS (joinG g m q) (lessL L q)) = true then some (q : Int) else ((natInts ns).drop (j + 1)).find? (fun v => dec (HardS (joinG g m v) (lessL L v)))) := Lib.hid (by
                  rw [find_drop hltj', bits_get hltj', ← hq])
                have HQB := Lib.hid hqb
                have HPQ := Lib.hid hpq
                have HSLT := Lib.hid HS.out.lt
                clear hn hltj' hq hqb hpq hpl
                by_cases hh : HardS (joinG g m q) (lessL L q)
                · have HH := Lib.hid hh
                  clear hh
                  go_upto_region 15 with (first
                    | (go_at_call 34; refine (ONE.out _).mono ?_; rintro e w2 ⟨rfl, rfl⟩)
                    | (go_at_call 64; refine (contracted_any _ a left m q _ _ _ rfl rfl rfl h16 HSLT.out hl65 hma hqa HTI.out _ (HX.out.below HB.out) (HT.out.keep HB.out)).mono ?_; rintro e w5 ⟨r5, rfl, ho5, hb5⟩; obtain ⟨p5, c5, rfl⟩ := own_shapeN ho5; have HO5 := Lib.hid (ownsRow_base ho5 HB.out.size); have HSL5 := Lib.hid (Sl.of_owns ho5 (by omega)); have HB5 := Lib.hid (HB.out.trans (hb5.mono HB.out.size)); clear ho5 hb5)
                    | (go_at_call 61; refine (isSeries_any _ _ (contrL a left m q) (sub left pq) HAND.out SJ.out.nok SJ.out.cnt _ (by rw [HCL.out]; exact HSL5.out) (HT.out.keep HB5.out)).mono ?_; rintro e w6 ⟨fs, l', a', he, hF, hl6, hb6⟩; rw [dec_false ((SJ.out.hard hF hl6).1 HH.out)] at he; subst he; have HB6 := Lib.hid (HB5.out.trans (hb6.mono HB5.out.size)); have HO6 := Lib.hid (ownsRow_below HO5.out hb6); clear hF hb6 hl6))
                  have hmm : m < ms.length := by rw [HML.out]; exact hma
                  have hqm : q < ms.length := by rw [HML.out]; exact hqa
                  obtain ⟨sb, rfl⟩ : ∃ sb, svp = some ⟨sb, 0, none⟩ := by
                    rcases HSV.out.2 with ⟨_, h0⟩ | ⟨b, cc, _, h1, _⟩
                    · omega
                    · simp only [Value.slice.injEq] at h1
                      exact ⟨b, h1.1⟩
                  have hsbl := HSV.out.lt sb rfl
                  have HSV6 := Lib.hid (ownsRow_below HSV.out HB6.out)
                  have hc1 := HSV6.out.cellAt m (show m < ms.length * 1 by omega)
                  have hc2 := HSV6.out.cellAt q (show q < ms.length * 1 by omega)
                  have hf1 := HSV6.out.frozenAt m
                  rw [List.getElem?_map, List.getElem?_eq_getElem hmm] at hc1
                  rw [List.getElem?_map, List.getElem?_eq_getElem hqm] at hc2
                  change w6.cell? ⟨sb, m, none⟩ = some (.int .u32 (ms[m] : Int)) at hc1
                  change w6.cell? ⟨sb, q, none⟩ = some (.int .u32 (ms[q] : Int)) at hc2
                  have HOR := Lib.hid (or_u32 ms[m] ms[q] (HMS.out _ (List.getElem_mem hmm)) (HMS.out _ (List.getElem_mem hqm)))
                  have HB60 := Lib.hid (HB6.out.size)
                  go_region
                  all_goals go_wp2_with (go_at_call 34; refine (ONE.out _).mono ?_; rintro e w2 ⟨rfl, rfl⟩)
                  all_goals
                    rw [HOR.out]
                    go_ret3
                    obtain ⟨ho2, hg2⟩ := HSV6.out.stored m (.int .u32 ((ms[m] ||| ms[q] : Nat) : Int))
                    have hrow : edgeRow g L m = some (q : Int) := by rw [HEJ.out, HFi.out, if_pos (dec_true HH.out)]
                    have hset : (ms.map u32v).set m (.int .u32 ((ms[m] ||| ms[q] : Nat) : Int)) = (ms.set m (ms.getD m 0 ||| ms.getD q 0)).map u32v := by
                      rw [List.map_set, show ms.getD m 0 = ms[m] by simp [hmm], show ms.getD q 0 = ms[q] by simp [hqm]]; rfl
                    rw [hset] at ho2
                    have hg3 := grown_trans (grown_of_below HB6.out (some sb)) hg2
                    have ho5 := ownsRow_setCell_other HO6.out (a := ⟨sb, m, none⟩) (fun e => by have := (HO6.out.lt sb e).1; omega) (.int .u32 ((ms[m] ||| ms[q] : Nat) : Int))
                    exact ⟨.slice p5 a.length c5, sub left pq, true, congrArg (fun z : Int => Ending.returned (Value.tuple #[Value.slice p5 a.length c5, Value.int .u32 z, Value.bool true])) HAND.out,
                      .edge rfl m q HNO.out (by rw [HE.out, HSF.out, edgeF, hrow]; rfl) HMB.out HQB.out (by omega) (by rw [HPQ.out]) ho5 ho2 ⟨hg3.os, hg3.tape, hg3.output, hg3.size, hg3.block⟩⟩
                · have HH := Lib.hid hh
                  clear hh
                  go_wp2_with (first
                    | (go_at_call 34; refine (ONE.out _).mono ?_; rintro e w2 ⟨rfl, rfl⟩)
                    | (go_at_call 64; refine (contracted_any _ a left m q _ _ _ rfl rfl rfl h16 HSLT.out hl65 hma hqa HTI.out _ (HX.out.below HB.out) (HT.out.keep HB.out)).mono ?_; rintro e w5 ⟨r5, rfl, ho5, hb5⟩; obtain ⟨p5, c5, rfl⟩ := own_shapeN ho5; have HSL5 := Lib.hid (Sl.of_owns ho5 (by omega)); have HB5 := Lib.hid (HB.out.trans (hb5.mono HB.out.size)); have HN5 := Lib.hid (HN.out.below hb5); have HN15 := Lib.hid (HN1.out.below hb5); clear ho5 hb5)
                    | (go_at_call 61; refine (isSeries_any _ _ (contrL a left m q) (sub left pq) HAND.out SJ.out.nok SJ.out.cnt _ (by rw [HCL.out]; exact HSL5.out) (HT.out.keep HB5.out)).mono ?_; rintro e w6 ⟨fs, l', a', he, hF, hl6, hb6⟩; rw [dec_true (Classical.byContradiction fun c => HH.out ((SJ.out.hard hF hl6).2 c))] at he; subst he; have HB6 := Lib.hid (HB5.out.trans (hb6.mono HB5.out.size)); have HN6 := Lib.hid (HN5.out.below hb6); have HN16 := Lib.hid (HN15.out.below hb6); clear hF hb6 hl6))
                  go_roundw
                  case rel => exact ⟨j + 1, by omega, by go_num, HB6.out, HN16.out, HN6.out, Lib.hid (by rw [HEJ.out, HFi.out, if_neg (by rw [dec_false HH.out]; decide)])⟩
                  case measure => simp [intOf]; omega
              · obtain rfl : j = ns.length := by omega
                have hnone : Hid (edgeF g L m = none) := Lib.hid (by rw [edgeF, HEJ.out, find_stop (by rw [natInts_length]; exact Nat.le_refl _)]; rfl)
                clear hn
                go_wp2_with fail
                go_roundw
                case rel => exact ⟨k + 1, by omega, by go_num, HB.out, HN1.out, Lib.hid (by rw [HE.out, HSF.out, hnone.out]; rfl)⟩
                case measure => simp [intOf]; omega
        · obtain rfl : k = ls.length := by omega
          clear hn hb
          go_wp2_with fail
          go_ret3
          exact ⟨.slice xp a.length xc, left, false, rfl, .stop rfl rfl rfl HNO.out (by rw [HE.out]; exact some_stop (by rw [HLL.out, natInts_length]; exact Nat.le_refl _)) HB.out⟩

end Go.Proofs.YtiklocamfgopbaaDoor
