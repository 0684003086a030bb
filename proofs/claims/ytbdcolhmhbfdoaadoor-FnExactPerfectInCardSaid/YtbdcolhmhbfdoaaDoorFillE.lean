/- Walk: the program's elimination, its loops. -/
import Derived.Test.YtbdcolhmhbfdoaaDoorFillD
import Derived.Test.YtbdcolhmhbfdoaaDoorOrdP
import Derived.Deep.DeepCutAuto
namespace Go.Proofs.YtbdcolhmhbfdoaaDoor
open Go.RowKit

def leftN (n : Nat) (l : List Nat) : Nat → Nat
  | 0 => 2 ^ n - 1
  | m + 1 => sub (leftN n l m) (2 ^ l.getD m 0)
def laterN (n : Nat) (E : Nat → Nat → Bool) (l : List Nat) : Nat → List Nat
  | 0 => List.replicate n 0
  | m + 1 => (laterN n E l m).set (l.getD m 0) (mask (natInts (lateL n E l m)))
theorem laterN_length (n : Nat) (E : Nat → Nat → Bool) (l : List Nat) : ∀ m, (laterN n E l m).length = n
  | 0 => by simp [laterN]
  | m + 1 => by simp [laterN, laterN_length n E l m]
theorem leftN_lt {n : Nat} (hn : n ≤ 16) (l : List Nat) : ∀ m, leftN n l m < 65536
  | 0 => by
    have : 2 ^ n ≤ 2 ^ 16 := Nat.pow_le_pow_right (by decide) hn
    simp only [leftN]; omega
  | m + 1 => sub_lt16 _ _ (leftN_lt hn l m)
theorem leftN_bit {n : Nat} (hn : n ≤ 16) {l : List Nat} (hl : ∀ v ∈ l, v < n) (j : Nat) : ∀ m, m ≤ l.length → (leftN n l m).testBit j = decide (j < n ∧ j ∉ l.take m)
  | 0, _ => by simp [leftN, Nat.testBit_two_pow_sub_one]
  | m + 1, h => by
    have hm : m < l.length := by omega
    have hlt := leftN_lt hn l m
    have hv := hl _ (List.getElem_mem hm)
    show (sub _ _).testBit j = _
    rw [getD_nat hm, testBit_sub _ _ (by omega) (pow_lt32 _ (by omega)), leftN_bit hn hl j m (by omega), testBit_pow, Bool.eq_iff_iff]
    simp only [Bool.and_eq_true, decide_eq_true_eq, Bool.not_eq_true', decide_eq_false_iff_not, take_snoc_mem hm]
    constructor
    · rintro ⟨⟨h1, h2⟩, h3⟩
      exact ⟨h1, fun h => h.elim h2 fun e => h3 e.symm⟩
    · rintro ⟨h1, h2⟩
      exact ⟨⟨h1, fun h => h2 (.inl h)⟩, fun e => h2 (.inr e.symm)⟩
/-- What is stored as the later neighbours. -/
theorem later_bit {n : Nat} (hn : n ≤ 16) {E : Nat → Nat → Bool} {l : List Nat} (hl : ∀ v ∈ l, v < n) {m : Nat} (hm : m < l.length) (j : Nat) :
    ((indN n (fillP E l m)).getD l[m] 0 &&& leftN n l (m + 1)).testBit j = decide (j ∈ lateL n E l m) := by
  rw [Nat.testBit_and, indN_bit (hl _ (List.getElem_mem hm)), leftN_bit hn hl j (m + 1) (by omega), Bool.eq_iff_iff]
  simp only [Bool.and_eq_true, decide_eq_true_eq, mem_lateL, laterE, getD_nat hm]
  constructor
  · rintro ⟨⟨h1, h2⟩, _, h3⟩; exact ⟨h1, h2, h3⟩
  · rintro ⟨h1, h2, h3⟩; exact ⟨⟨h1, h2⟩, h1, h3⟩
theorem later_eq {n : Nat} (hn : n ≤ 16) {E : Nat → Nat → Bool} {l : List Nat} (hl : ∀ v ∈ l, v < n) {m : Nat} (hm : m < l.length) :
    (indN n (fillP E l m)).getD l[m] 0 &&& leftN n l (m + 1) = mask (natInts (lateL n E l m)) :=
  Nat.eq_of_testBit_eq fun j => by rw [later_bit hn hl hm, mask_bit]
theorem later_bits {n : Nat} (hn : n ≤ 16) {E : Nat → Nat → Bool} {l : List Nat} {m : Nat} : bitsOf (mask (natInts (lateL n E l m))) = lateL n E l m := by
  have h16 : mask (natInts (lateL n E l m)) < 65536 := mask_nat_lt16 fun i hi => by have := (mem_lateL.1 hi).1; omega
  refine rising_ext _ _ (bitsOf_rising _) (lateL_rising _ _ _ _) fun x => ?_
  rw [mem_bitsOf' (by omega), mask_bit]
  simp

theorem natInts_at {l : List Nat} {k : Nat} (h : k < l.length) {h' : k < (natInts l).length} : (natInts l)[k] = ((l[k] : Nat) : Int) := by simp [natInts]

/-- What the loops of elimination carry. -/
structure EL (w wr : World) (fb fc lb n : Nat) (fs ls : List Nat) : Prop where
  f : wr.ownsRow w.heap.size 73 1 (.slice (some ⟨fb, 0, none⟩) n fc) n (fs.map u32v)
  l : wr.ownsRow w.heap.size 73 1 (.slice (some ⟨lb, 0, none⟩) n n) n (ls.map u32v)
  ne : fb ≠ lb
  bel : Below w.heap.size w wr
theorem EL.first {w X w1 : World} {fb fc n e : Nat} {fs : List Nat} (hn : n ≤ 1000) (ho : w1.ownsRow w.heap.size 73 1 (.slice (some ⟨fb, 0, none⟩) n fc) n (fs.map u32v)) (hX : Below w.heap.size w X) (hg : X.grownBy w1 (some e)) (he : w.heap.size ≤ e) :
    EL w (w1.alloc (.cells (Array.replicate n (.int .u32 0)) 73)) fb fc w1.heap.size n fs (List.replicate n 0) := by
  have hb := hX.grown hg hX.size (fun k hk => by cases hk; exact he)
  have hlt := (ho.lt fb rfl).2
  exact ⟨ho.alloc _, by rw [List.map_replicate]; exact ownsRow_base (owns_made w1 n hn) hb.size, by omega, hb.alloc hb.size _⟩
theorem EL.second {w X w1 : World} {fb fc n e lb : Nat} {fs : List Nat} (ho : w1.ownsRow w.heap.size 73 1 (.slice (some ⟨fb, 0, none⟩) n fc) n (fs.map u32v)) (hX : Below w.heap.size w X) (hg : X.grownBy w1 (some e)) (he : w.heap.size ≤ e)
    (hl : X.ownsRow w.heap.size 73 1 (.slice (some ⟨lb, 0, none⟩) n n) n (List.replicate n (.int .u32 0))) (h1 : e ≠ lb) (h2 : fb = e ∨ X.heap.size ≤ fb) : EL w w1 fb fc lb n fs (List.replicate n 0) := by
  have hb := hX.grown hg hX.size (fun k hk => by cases hk; exact he)
  have hlt := (hl.lt lb rfl).2
  exact ⟨ho, by rw [List.map_replicate]; exact hl.kept hg (.inr fun h => h1 (Option.some.inj h).symm), by omega, hb⟩
theorem EL.next {w wr W : World} {fb fc lb n : Nat} {fs ls : List Nat} (h : EL w wr fb fc lb n fs ls) (hb : Below wr.heap.size wr W) : EL w W fb fc lb n fs ls :=
  ⟨ownsRow_below h.f hb, ownsRow_below h.l hb, h.ne, h.bel.trans (hb.mono h.bel.size)⟩
theorem EL.setF {w wr : World} {fb fc lb n : Nat} {fs ls : List Nat} (h : EL w wr fb fc lb n fs ls) (u y : Nat) : EL w (wr.setCell ⟨fb, u, none⟩ (.int .u32 (y : Int))) fb fc lb n (fs.set u y) ls := by
  obtain ⟨h1, h2⟩ := h.f.stored u (.int .u32 (y : Int))
  refine ⟨by rw [List.map_set]; exact h1, h.l.kept h2 (.inr fun e => h.ne (Option.some.inj e).symm), h.ne, below_grown h.bel h.f h2 (Nat.le_refl _) h.bel.size⟩
theorem EL.setL {w wr : World} {fb fc lb n : Nat} {fs ls : List Nat} (h : EL w wr fb fc lb n fs ls) (u y : Nat) : EL w (wr.setCell ⟨lb, u, none⟩ (.int .u32 (y : Int))) fb fc lb n fs (ls.set u y) := by
  obtain ⟨h1, h2⟩ := h.l.stored u (.int .u32 (y : Int))
  refine ⟨h.f.kept h2 (.inr fun e => h.ne (Option.some.inj e)), by rw [List.map_set]; exact h1, h.ne, below_grown h.bel h.l h2 (Nat.le_refl _) h.bel.size⟩
theorem EL.cellF {w wr : World} {fb fc lb n : Nat} {fs ls : List Nat} (h : EL w wr fb fc lb n fs ls) (hl : fs.length = n) {u : Nat} (hu : u < n) : wr.cell? ⟨fb, u, none⟩ = some (.int .u32 ((fs.getD u 0 : Nat) : Int)) := by
  have h1 := h.f.cellAt u (by omega)
  rw [List.getElem?_map, List.getElem?_eq_getElem (by omega)] at h1
  rw [h1, getD_nat (by omega)]; rfl
theorem EL.cellL {w wr : World} {fb fc lb n : Nat} {fs ls : List Nat} (h : EL w wr fb fc lb n fs ls) (hl : ls.length = n) {u : Nat} (hu : u < n) : wr.cell? ⟨lb, u, none⟩ = some (.int .u32 ((ls.getD u 0 : Nat) : Int)) := by
  have h1 := h.l.cellAt u (by omega)
  rw [List.getElem?_map, List.getElem?_eq_getElem (by omega)] at h1
  rw [h1, getD_nat (by omega)]; rfl

set_option maxRecDepth 100000 in
set_option maxHeartbeats 4000000 in
theorem elimination_any (x lv : Value) (n : Nat) (E : Nat → Nat → Bool) (l : List Nat) (hn1 : 1 ≤ n) (hn16 : n ≤ 16) (hl : ∀ v ∈ l, v < n) (hl16 : l.length ≤ 16) (w : World)
    (hx : Sl w 73 x n ((indN n E).map u32v)) (hnl : Nums w 3 .i64 lv (natInts l)) (hT : Tab w) :
    Calls Tryd.prog 48 #[x, lv] w fun e w' => ∃ fv gv, e = .returned (.tuple #[fv, gv]) ∧
      w'.ownsRow w.heap.size 73 1 fv n ((indN n (fillP E l l.length)).map u32v) ∧ w'.ownsRow w.heap.size 73 1 gv n ((laterN n E l l.length).map u32v) ∧ Below w.heap.size w w' := by
  obtain ⟨xp, xc, rfl, _⟩ := id hx
  obtain ⟨lp, lc, rfl, _⟩ := id hnl.shape
  have hll := natInts_length l
  rw [hll] at hnl ⊢
  have HX := Lib.hid hx
  have HN := Lib.hid hnl
  have HT := Lib.hid hT
  have HL := Lib.hid hl
  have HLL := Lib.hid hll
  have hmk := run_mk_nets n (by omega)
  have hM := Lib.hid (fun w => all_any xp n xc (by omega) w)
  clear hx hnl hT hl hll
  go_enter Tryd.func48, Tryd.ntmps48
  go_upto_region 1 with fail
  go_cut [6, 7, 8] (fun s6 s7 s8 wx => ∃ (fb fc lb : Nat), s6 = .slice (some ⟨fb, 0, none⟩) n fc ∧ s7 = .slice (some ⟨lb, 0, none⟩) n n ∧ s8 = .int .u32 ((2 ^ n - 1 : Nat) : Int) ∧ EL w wx fb fc lb n (indN n E) (List.replicate n 0))
  case first =>
    go_region_law (first
      | (go_simp; go_at_call 80; refine (hM.out _).mono ?_; rintro e w2 ⟨rfl, rfl⟩)
      | (refine step_app ty_nets (base := w.heap.size) (v := .slice _ 0 0) (n := 0) (xs := []) rfl rfl rfl (by first | exact ownsRow_empty _ _ _ | exact World.ownsRow.alloc (ownsRow_empty _ _ _) _ | exact ownsRow_empty' _ _ _ _ _ (by omega)) rfl (Sl.below HX.out (by first | exact below_dN (below_alloc w _) 1 | exact below_dN (below_alloc2 w _ _) 1)) (by simp [indN_length]) (fun y hy => by obtain ⟨z, _, rfl⟩ := List.mem_map.1 hy; rfl) (by omega) (by first | exact (below_alloc w _).size | exact (below_alloc2 w _ _).size) ?_; intro v' w1 ho1 hg1 hor1; rw [Nat.zero_add, List.nil_append] at ho1; obtain ⟨fb, fc, hv'⟩ : ∃ fb fc, v' = .slice (some ⟨fb, 0, none⟩) n fc := (by rcases ho1.2 with ⟨_, h0⟩ | ⟨g, cap, cur, h1, _⟩; omega; exact ⟨g, cap, h1⟩); subst hv'))
    all_goals go_wp2
    all_goals go_meet
    all_goals first
      | exact ⟨fb, fc, _, rfl, rfl, rfl, EL.first (by omega) ho1 (by first | exact below_dN (below_alloc w _) 1 | exact below_alloc w _) hg1 (Nat.le_refl _)⟩
      | exact ⟨fb, fc, _, rfl, rfl, rfl, EL.second (e := w.heap.size) (lb := w.heap.size + 1) ho1 (below_dN (below_alloc2 w _ _) 1) hg1 (Nat.le_refl _) (World.ownsRow.drew (by have := owns_made (w.alloc (.cells #[] 73)) n (by omega); rw [size_alloc] at this; exact ownsRow_base this (by omega))) (by omega) (by rcases hor1 fb rfl with h | h; cases h; exact .inl rfl; exact .inr h)⟩
      | exact ⟨fb, fc, _, rfl, rfl, rfl, EL.second (e := w.heap.size + 1) (lb := w.heap.size) ho1 (below_dN (below_alloc2 w _ _) 1) hg1 (by omega) (World.ownsRow.drew ((owns_made w n (by omega)).alloc _)) (by omega) (by rcases hor1 fb rfl with h | h; cases h; exact .inl rfl; exact .inr h)⟩
  case rest =>
    obtain ⟨fb, fc, lb, rfl, rfl, rfl, hE⟩ := hcut
    have START := Lib.hid hE
    clear hE hmk hM
    go_wp2_with fail
    go_loopw [8, 23] (fun s8 i wr => ∃ k : Nat, k ≤ l.length ∧ i = .int .i64 k ∧ s8 = .int .u32 ((leftN n l k : Nat) : Int) ∧ EL w wr fb fc lb n (indN n (fillP E l k)) (laterN n E l k)) (fun _ i _ => l.length - (intOf i).toNat)
    case atStart => exact ⟨0, Nat.zero_le _, rfl, rfl, START.out⟩
    case round =>
      clear START
      obtain ⟨k, hk, rfl, rfl, hE⟩ := hrel
      have HE := Lib.hid hE
      clear hE
      by_cases hlt : k < l.length
      · have hv := HL.out _ (List.getElem_mem hlt)
        have hn' := HN.out.below HE.out.bel
        obtain ⟨b, o, rfl, hci⟩ := hn'.get (k := k) (by rw [HLL.out]; exact hlt)
        rw [natInts_at hlt] at hci
        have hF := HE.out.cellF (indN_length _ _) hv
        have hL := HE.out.cellL (laterN_length _ _ _ _) hv
        have hLz := HE.out.l.frozenAt l[k]
        have hFz := HE.out.f.frozenAt l[k]
        have hne := HE.out.ne
        have hF16 : (indN n (fillP E l k)).getD l[k] 0 < 65536 := by
          rw [getD_nat (by rw [indN_length]; exact hv)]; exact indN_lt16 hn16 _ (List.getElem_mem _)
        have hk16 := leftN_lt hn16 l k
        have hk16' := leftN_lt hn16 l (k + 1)
        have hand : bits BinOp.andNot IntKind.u32 ((leftN n l k : Nat) : Int) ((2 ^ l[k] : Nat) : Int) = ((leftN n l (k + 1) : Nat) : Int) := by
          rw [show leftN n l (k + 1) = sub (leftN n l k) (2 ^ l.getD k 0) from rfl, getD_nat hlt]
          exact u32_andNot_nat _ _ (by omega) (pow_lt32 _ (by omega))
        have hM := later_eq hn16 (E := E) HL.out hlt
        have hand2 := u32_and_nat ((indN n (fillP E l k)).getD l[k] 0) (leftN n l (k + 1)) (by omega) (by omega)
        rw [hM] at hand2
        have hM16 : mask (natInts (lateL n E l k)) < 65536 := mask_nat_lt16 fun i hi => by have := (mem_lateL.1 hi).1; omega
        have hM32 : mask (natInts (lateL n E l k)) < 4294967296 := by omega
        have hbits := Lib.hid (later_bits (E := E) (l := l) (m := k) hn16)
        have HE2 := Lib.hid (HE.out.setL l[k] (mask (natInts (lateL n E l k))))
        have hlat : Hid ((laterN n E l k).set l[k] (mask (natInts (lateL n E l k))) = laterN n E l (k + 1)) := Lib.hid (by
          show _ = (laterN n E l k).set (l.getD k 0) _
          rw [getD_nat hlt])
        have HM := Lib.hid hM
        have hMb : Hid (∀ j, (mask (natInts (lateL n E l k))).testBit j = decide (j ∈ lateL n E l k)) := Lib.hid fun j => mask_bit _ _
        have hgl : Hid ((laterN n E l (k + 1)).getD l[k] 0 = mask (natInts (lateL n E l k))) := Lib.hid (by
          rw [← hlat.out, getD_set _ _ _ _ (by rw [laterN_length]; exact hv), if_pos rfl])
        have c1 := Lib.hid (fun w => one_any ((l[k] : Nat) : Int) l[k] rfl (by omega) w)
        generalize mask (natInts (lateL n E l k)) = M at *
        generalize (indN n (fillP E l k)).getD l[k] 0 = F at *
        clear hn' hM
        generalize 2 ^ l[k] = pk at *
        have HT2 := Lib.hid (HT.out.keep HE2.out.bel)
        have hL3 : (lateL n E l k).length ≤ 16 := Nat.le_trans (List.length_filter_le _ _) (by rw [List.length_range]; omega)
        have hws := HE2.out.bel.size
        go_wp2_with (first
          | (go_at_call 73; refine (c1.out _).mono ?_; rintro e w2 ⟨rfl, rfl⟩)
          | (go_at_call 81; refine (list_any _ M rfl hM32 _ HT2.out).mono ?_; rintro e w3 ⟨lv, rfl, hown3, hb3⟩; rw [hbits.out] at hown3; have hN3 := Nums.of_owns hown3 (natInts_length _).symm (by omega); obtain ⟨lvp, lvc, rfl, _⟩ := hN3.shape; rw [natInts_length]; clear hN3))
        rw [natInts_length] at hown3
        have hE3 := HE2.out.next hb3
        rw [hlat.out] at hE3
        have HE3 := Lib.hid hE3
        have s3 := hb3.size
        have Hown3 := Lib.hid hown3
        clear hF hL hLz hFz hF16 HE hE3 HE2 hb3 hown3 HT2 hlat hand hand2 HM c1 hci
        go_loopw [46] (fun i wx => ∃ t : Nat, t ≤ (lateL n E l k).length ∧ i = .int .i64 t ∧ EL w wx fb fc lb n (indN n (wingE (fillP E l k) (lateL n E l k) t)) (laterN n E l (k + 1)) ∧ wx.ownsRow w.heap.size 3 1 (.slice lvp (lateL n E l k).length lvc) (lateL n E l k).length ((natInts (lateL n E l k)).map (Value.int .i64)))
          (fun i _ => (lateL n E l k).length - (intOf i).toNat)
        case atStart => exact ⟨0, Nat.zero_le _, rfl, by rw [wing_start]; exact HE3.out, ownsRow_base Hown3.out hws⟩
        case round =>
          clear HE3 Hown3
          obtain ⟨t, ht, rfl, hE, hown⟩ := hrel
          have HE := Lib.hid hE
          have Hown := Lib.hid hown
          have HNx := Lib.hid (Nums.of_owns hown (natInts_length _).symm (by omega))
          clear hE hown
          by_cases hlt2 : t < (lateL n E l k).length
          · have hu := (mem_lateL.1 (List.getElem_mem hlt2)).1
            obtain ⟨_, lo, rfl, hcu⟩ := HNx.out.get (k := t) (by rw [natInts_length]; exact hlt2)
            rw [natInts_at hlt2] at hcu
            have hF := HE.out.cellF (indN_length _ _) hu
            have hL := HE.out.cellL (laterN_length _ _ _ _) hv
            rw [hgl.out] at hL
            have hFz := HE.out.f.frozenAt (lateL n E l k)[t]
            have hF16 : (indN n (wingE (fillP E l k) (lateL n E l k) t)).getD (lateL n E l k)[t] 0 < 65536 := by
              rw [getD_nat (by rw [indN_length]; exact hu)]; exact indN_lt16 hn16 _ (List.getElem_mem _)
            have hstep := wing_step hn16 (E := fillP E l k) (lateL_rising n E l k) (fun x hx => (mem_lateL.1 hx).1) hlt2 hM16 hMb.out
            have hE2 := HE.out.setF (lateL n E l k)[t] ((indN n (wingE (fillP E l k) (lateL n E l k) t)).getD (lateL n E l k)[t] 0 ||| sub M (2 ^ (lateL n E l k)[t]))
            rw [hstep] at hE2
            have HE2 := Lib.hid hE2
            have hown2 := ownsRow_other Hown.out HE.out.f (HE.out.f.stored (lateL n E l k)[t] (.int .u32 (((indN n (wingE (fillP E l k) (lateL n E l k) t)).getD (lateL n E l k)[t] 0 ||| sub M (2 ^ (lateL n E l k)[t]) : Nat) : Int))).2 (by decide)
            have Hown2 := Lib.hid hown2
            have hand : bits BinOp.andNot IntKind.u32 ((M : Nat) : Int) ((2 ^ (lateL n E l k)[t] : Nat) : Int) = ((sub M (2 ^ (lateL n E l k)[t]) : Nat) : Int) := u32_andNot_nat _ _ hM32 (pow_lt32 _ (by omega))
            have hor := or_u32 ((indN n (wingE (fillP E l k) (lateL n E l k) t)).getD (lateL n E l k)[t] 0) (sub M (2 ^ (lateL n E l k)[t])) hF16 (sub_lt16 _ _ hM16)
            have c1 := Lib.hid (fun w => one_any (((lateL n E l k)[t] : Nat) : Int) (lateL n E l k)[t] rfl (by omega) w)
            clear hstep hE2 hown2
            generalize (indN n (wingE (fillP E l k) (lateL n E l k) t)).getD (lateL n E l k)[t] 0 = F2 at *
            generalize sub M (2 ^ (lateL n E l k)[t]) = S2 at *
            generalize 2 ^ (lateL n E l k)[t] = p2 at *
            go_upto_region 10 with fail
            go_region_with (go_at_call 73; refine (c1.out _).mono ?_; rintro e w2 ⟨rfl, rfl⟩)
            all_goals go_wp2
            all_goals go_roundw
            all_goals first
              | (simp [intOf]; omega)
              | exact ⟨t + 1, by omega, by go_num, HE2.out.next (below_dN (Below.refl _ _) 1), World.ownsRow.drew Hown2.out⟩
          · obtain rfl : t = (lateL n E l k).length := by omega
            go_wp2
            go_roundw
            case rel => exact ⟨k + 1, by omega, by go_num, rfl, by rw [← wing_end]; exact HE.out⟩
            case measure => simp [intOf]; omega
      · obtain rfl : k = l.length := by omega
        go_wp2
        go_ret2
        exact ⟨_, _, rfl, HE.out.f, HE.out.l, HE.out.bel⟩

end Go.Proofs.YtbdcolhmhbfdoaaDoor
