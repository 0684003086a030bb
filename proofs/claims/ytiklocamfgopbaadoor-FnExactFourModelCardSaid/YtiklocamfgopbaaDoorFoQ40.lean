/- Walk: contracting an edge, as the program does it. -/
import Derived.Test.YtiklocamfgopbaaDoorFoQ37
import Derived.Test.YtiklocamfgopbaaDoorFoQ39
namespace Go.Proofs.YtiklocamfgopbaaDoor
open Go.RowKit

theorem own_shapeN {w : World} {base n : Nat} {E : TypeId} {v : Value} {xs : List Value} (h : w.ownsRow base E 1 v n xs) : ∃ p c, v = .slice p n c := by
  rcases h.2 with ⟨rfl, h0⟩ | ⟨b, c, _, rfl, _⟩
  · exact ⟨none, 0, by rw [h0]⟩
  · exact ⟨_, _, rfl⟩
theorem tie_take {a : List Nat} {u : Nat} {l : List Nat} {k : Nat} (h : k < l.length) : tieN a u (l.take (k + 1)) = joinL (tieN a u (l.take k)) u l[k] := by
  rw [take_snoc' l k h, tieN_snoc]

set_option maxRecDepth 100000 in
set_option maxHeartbeats 4000000 in
theorem contracted_any (x : Value) (a : List Nat) (left u v : Nat) (y z t : Int) (hy : y = left) (hz : z = u) (ht : t = v) (h16 : a.length ≤ 16) (ha : ∀ s ∈ a, s < 65536) (hl : left < 65536) (hu : u < a.length) (hv : v < a.length)
    (hin : ∀ i ∈ toTie a left u v, i < a.length) (w : World) (hx : Sl w 56 x a.length (a.map u32v)) (hT : Tab w) :
    Calls Tryd.prog 64 #[x, .int .u32 y, .int .i64 z, .int .i64 t] w fun e w' => ∃ r, e = .returned r ∧ w'.ownsRow w.heap.size 56 1 r a.length ((contrL a left u v).map u32v) ∧ Below w.heap.size w w' := by
  subst hy; subst hz; subst ht
  have hbA := below_alloc w (.cells #[] 56)
  have hx1 := hx.below hbA
  have ho := ownsRow_empty w 56 1
  have hT1 := hT.keep hbA
  have hpos := hT.pos
  have hsz := hbA.size
  have h1 : ∀ v ∈ a.map u32v, v.oneCell' = true := by
    intro v hv
    obtain ⟨i, _, rfl⟩ := List.mem_map.1 hv
    rfl
  obtain ⟨xp, xc, rfl⟩ := hx.shape
  obtain ⟨l, hl0⟩ : ∃ l, l = toTie a left u v := ⟨_, rfl⟩
  have HL := Lib.hid hl0
  obtain ⟨pu, hpu⟩ : ∃ pu, pu = 2 ^ u := ⟨_, rfl⟩
  have hu32 : u < 32 := by omega
  have c1 := Lib.hid (fun w => one_any (u : Int) u rfl hu32 w)
  have hpl : pu < 4294967296 := by rw [hpu]; exact pow_lt32 u hu32
  have hand := Lib.hid (and_near ha hv hl)
  have hnl : a.getD v 0 &&& left < 4294967296 := Nat.lt_of_le_of_lt Nat.and_le_right (by omega)
  have hand2 := Lib.hid (u32_andNot_nat (a.getD v 0 &&& left) pu hnl hpl)
  have hand3 : Hid (bits BinOp.andNot IntKind.u32 (bits BinOp.and IntKind.u32 (a[v] : Int) (left : Int)) (pu : Int) = ((sub (a.getD v 0 &&& left) pu : Nat) : Int)) := Lib.hid (by rw [hand.out]; exact hand2.out)
  have hsub : Hid (bitsOf (sub (a.getD v 0 &&& left) pu) = l) := Lib.hid (by rw [hl0, hpu]; rfl)
  have HSL := Lib.hid (sub_lt32 (a.getD v 0 &&& left) pu hnl)
  have HIN := Lib.hid (show ∀ i ∈ l, i < a.length ∧ i ≠ u from fun i hi => ⟨hin i (hl0 ▸ hi), ((mem_toTie hl (by omega)).1 (hl0 ▸ hi)).2.2⟩)
  have hll : l.length ≤ 32 := by rw [← hsub.out]; exact bitsOf_length _
  have HA := Lib.hid ha
  have C1 : Hid (∀ w, Calls Tryd.prog 34 #[.int .i64 (u : Int)] w fun e w' => e = .returned (.int .u32 (pu : Int)) ∧ w = w') := Lib.hid (by rw [hpu]; exact c1.out)
  have LIST := Lib.hid (fun (w : World) (hT : Tab w) => list_any _ _ hand3.out HSL.out w hT)
  rw [hsub.out] at LIST
  clear hx hT hl0 hpu c1 hin ha
  go_enter Tryd.func64, Tryd.ntmps64
  go_upto_region 2 with (first
    | (at_builtin; refine wpList_app ty_nets rfl rfl rfl ho rfl hx1 (by simp) h1 (by omega) hsz ?_; intro v' w1 hown1 hg1 _; simp only [Nat.zero_add, List.nil_append] at hown1; have HB1 := Lib.hid (below_grown hbA ho hg1 (Nat.le_refl _) hsz); have HT1 := Lib.hid (hT1.grown hg1 (fun e => by have := (ho.lt _ e.symm).1; omega)); obtain ⟨p, c, rfl⟩ := own_shapeN hown1))
  obtain ⟨ob, rfl⟩ : ∃ ob, p = some ⟨ob, 0, none⟩ := by
    rcases hown1.2 with ⟨_, h0⟩ | ⟨b, cc, _, h1, _⟩
    · omega
    · simp only [Value.slice.injEq] at h1
      exact ⟨b, h1.1⟩
  have hcell := hown1.cellAt v (show v < a.length * 1 by omega)
  rw [List.getElem?_map, List.getElem?_eq_getElem hv] at hcell
  change w1.cell? ⟨ob, v, none⟩ = some (.int .u32 (a[v] : Int)) at hcell
  have HO1 := Lib.hid hown1
  clear hown1 ho hx1 hbA hT1 hsz h1
  go_cut [24, 25, 26] (fun s24 s25 s26 wx => s25 = .int .i64 l.length ∧ s26 = .int .i64 (0 : Nat) ∧ Below w1.heap.size w1 wx ∧ Nums wx 3 .i64 s24 (natInts l))
  case first =>
    go_region_held3 (fun w' => w'.cell? ⟨ob, v, none⟩ = some (.int .u32 (a[v] : Int)))
      (first | exact hcell | exact BWA.at' hcell | go_keep)
      (first
        | (go_at_call 34; refine (C1.out _).mono ?_; rintro e w2 ⟨rfl, rfl⟩)
        | (go_at_call 36; refine (LIST.out _ (HT1.out.keep (below_dN (Below.refl _ _) 1))).mono ?_; rintro e w2 ⟨lv, rfl, hown2, hb2⟩; have HNL := Lib.hid (Nums.of_owns hown2 (natInts_length _).symm (by omega)); obtain ⟨lp, lc, rfl, _⟩ := id HNL.out; have BWA : Below w1.heap.size w1 w2 := (below_dN (Below.refl _ _) 1).trans hb2; clear hown2 hb2))
    all_goals go_wp2
    all_goals go_meet
    all_goals exact ⟨by rw [natInts_length], rfl, BWA, HNL.out⟩
  case rest =>
    obtain ⟨rfl, rfl, hbc, hnl'⟩ := hcut
    have HNL := Lib.hid hnl'
    have HOC := Lib.hid (ownsRow_below HO1.out hbc)
    have HBC := Lib.hid (HB1.out.trans (hbc.mono HB1.out.size))
    obtain ⟨lp, lc, rfl, _⟩ := id hnl'
    have hnll := natInts_length l
    rw [hnll]
    clear hbc hnl' hcell LIST C1 hand hand2 hand3 hsub HSL hnl hpl
    go_wp2_with fail
    go_loopw [26] (fun i wr => ∃ k : Nat, k ≤ l.length ∧ i = .int .i64 k ∧ wr.ownsRow w.heap.size 56 1 (.slice (some ⟨ob, 0, none⟩) a.length c) a.length ((tieN a u (l.take k)).map u32v) ∧ Below w.heap.size w wr ∧ Nums wr 3 .i64 (.slice lp l.length lc) (natInts l)) (fun i _ => l.length - (intOf i).toNat)
    case atStart => exact ⟨0, Nat.zero_le _, rfl, HOC.out, HBC.out, by have := HNL.out; rw [natInts_length] at this; exact this⟩
    case round =>
      clear HNL HOC HBC
      obtain ⟨k, hk, rfl, ho, hb, hn⟩ := hrel
      have HO := Lib.hid ho
      have HB := Lib.hid hb
      have HN := Lib.hid hn
      clear ho hb
      by_cases hlt : k < l.length
      · obtain ⟨y, hy⟩ : ∃ y, y = l[k] := ⟨_, rfl⟩
        obtain ⟨hya, hyu⟩ := HIN.out l[k] (List.getElem_mem hlt)
        rw [← hy] at hya hyu
        have HY := Lib.hid hy
        have hlt' : k < (natInts l).length := by rw [natInts_length]; exact hlt
        obtain ⟨eb, eo, rfl, hce⟩ := hn.get hlt'
        have e1 : (natInts l)[k] = (y : Int) := by rw [hy]; simp [natInts]
        rw [e1] at hce
        obtain ⟨q1, _⟩ := tieN_bits (u := u) (l.take k) a h16 HA.out hu (fun x hx => HIN.out x (List.mem_of_mem_take hx))
        have Q1 := Lib.hid q1
        have Q2 := Lib.hid (tieN_length u (l.take k) a)
        have JOIN : ∀ w', w'.ownsRow w.heap.size 56 1 (.slice (some ⟨ob, 0, none⟩) a.length c) a.length ((tieN a u (l.take k)).map u32v) → Calls Tryd.prog 82 #[.slice (some ⟨ob, 0, none⟩) a.length c, .int .i64 (u : Int), .int .i64 (y : Int)] w' fun e w'' => e = .returned (.tuple #[]) ∧
            w''.ownsRow w.heap.size 56 1 (.slice (some ⟨ob, 0, none⟩) a.length c) a.length ((tieN a u (l.take (k + 1))).map u32v) ∧ w'.grownBy w'' (some ob) := by
          intro w' ho
          rw [tie_take hlt, ← HY.out]
          have := join_any (.slice (some ⟨ob, 0, none⟩) a.length c) u y (tieN a u (l.take k)) u y w.heap.size rfl rfl (by rw [Q2.out]; exact hu) (by rw [Q2.out]; exact hya) (fun e => hyu e.symm) (by rw [Q2.out]; exact h16) Q1.out w' (by rw [Q2.out]; exact ho)
          rw [Q2.out] at this
          exact this
        have HJ := Lib.hid JOIN
        clear hn e1 hlt' q1 hy JOIN
        go_wp2_with (go_at_call 82; refine (HJ.out _ HO.out).mono ?_; rintro e w3 ⟨rfl, ho3, hg3⟩)
        go_roundw
        case rel => exact ⟨k + 1, by omega, by go_num, ho3, HB.out.grown hg3 HB.out.size (fun b hb => by have := (HO.out.lt b hb).1; exact this), HN.out.other HO.out hg3 (by decide)⟩
        case measure => simp [intOf]; omega
      · obtain rfl : k = l.length := by omega
        rw [List.take_length] at HO
        clear hn
        go_wp2
        go_ret
        exact ⟨_, rfl, by rw [contrL, ← HL.out]; exact HO.out, HB.out⟩

end Go.Proofs.YtiklocamfgopbaaDoor
