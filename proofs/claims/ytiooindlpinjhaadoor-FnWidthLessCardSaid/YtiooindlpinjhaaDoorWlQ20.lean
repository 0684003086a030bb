/- Walk: the program folds. -/
import Derived.Test.YtiooindlpinjhaaDoorWlQ10
import Derived.Test.YtiooindlpinjhaaDoorWlQ17
import Derived.Test.YtiooindlpinjhaaDoorWlQ19
import Derived.Maps.OwnOps
import Derived.Maps.OwnSet
namespace Go.Proofs.YtiooindlpinjhaaDoor
open Go.RowKit

/-- Sets of neighbours that the walk can go on with. -/
structure NOk (a : List Nat) (left : Nat) : Prop where
  le : a.length ≤ 16
  lt : ∀ s ∈ a, s < 65536
  left16 : left < 65536
  inn : ∀ v, left.testBit v = true → v < a.length

theorem near_in {a : List Nat} {left v : Nat} (h : NOk a left) : ∀ x ∈ nearL a left v, ∃ i : Nat, x = (i : Int) ∧ i < a.length := by
  intro x hx
  obtain ⟨i, rfl, _, h2⟩ := (mem_near h.left16).1 hx
  exact ⟨i, rfl, h.inn i h2⟩

theorem NOk.pair {a : List Nat} {left v : Nat} (h : NOk a left) (h2 : (nearL a left v).length ≤ 2) {f : Fd} (hf : f = atRow v (nearL a left v)) (hB : 0 ≤ f.B) :
    ∃ p q : Nat, f.A = p ∧ f.B = q ∧ p < a.length ∧ q < a.length ∧ p ≠ q := by
  obtain ⟨_, hAB⟩ := atRow_cases (v : Int) (near_rising a left v) h2 (fun x hx => by obtain ⟨i, rfl, _⟩ := near_in h x hx; omega)
  rw [← hf] at hAB
  rcases hAB with ⟨k, _⟩ | ⟨hA, hB', h3, h4, h5⟩
  · omega
  · obtain ⟨p, hp, hpl⟩ := near_in h _ hA
    obtain ⟨q, hq, hql⟩ := near_in h _ hB'
    exact ⟨p, q, hp, hq, hpl, hql, by omega⟩

theorem NOk.away {a : List Nat} {left v : Nat} (h : NOk a left) (hv : left.testBit v = true) (h2 : (nearL a left v).length ≤ 2) {f : Fd} (hf : f = atRow v (nearL a left v)) : NOk (awayL a f) (sub left (2 ^ v)) := by
  have hle := h.le
  have hvl := h.inn v hv
  refine ⟨by rw [awayL_length]; exact hle, ?_, sub_lt16 _ _ h.left16, fun u hu => ?_⟩
  · by_cases hB : 0 ≤ f.B
    · obtain ⟨p, q, hp, hq, hpl, hql, _⟩ := h.pair h2 hf hB
      have e : awayL a f = joinL a p q := by
        show (if _ then _ else _) = _
        rw [if_pos hB, hp, hq, Int.toNat_natCast, Int.toNat_natCast]
      rw [e]
      exact joinL_lt16 h.lt (by omega) (by omega)
    · have e : awayL a f = a := if_neg hB
      rw [e]; exact h.lt
  · rw [awayL_length]
    exact h.inn u ((testBit_sub1 h.left16 (by omega) u).1 hu).1

theorem bits_sub_lt {left v : Nat} (h : left < 65536) (hv : left.testBit v = true) (h16 : v < 16) : (bitsOf (sub left (2 ^ v))).length < (bitsOf left).length := by
  have h1 := list_sub h h16
  have h2 : ((v : Nat) : Int) ∈ natInts (bitsOf left) := mem_natInts.2 ⟨v, (mem_left h).2 hv, rfl⟩
  have h3 := lessL_length_lt h2
  rw [h1, natInts_length, natInts_length] at h3
  exact h3

theorem grown_own {w w' w'' : World} {E : TypeId} {size n : Nat} {v : Value} {xs : List Value} {r : Option Nat} (h : w.grownBy w' r) (ho : w'.ownsRow w.heap.size E size v n xs) (hg : w'.grownBy w'' v.ownBlock) : w.grownBy w'' r :=
  ⟨hg.os.trans h.os, hg.tape.trans h.tape, hg.output.trans h.output, Nat.le_trans h.size hg.size, fun k hk hne => (hg.block k (Nat.lt_of_lt_of_le hk h.size) (fun e => by have := (ho.lt k e.symm).1; omega)).trans (h.block k hk hne)⟩

theorem Tab.grown {w w' : World} {r : Option Nat} (h : Tab w) (hg : w.grownBy w' r) (hr : some 0 ≠ r) : Tab w' := fun j hj => hg.cell (a := ⟨_, j, none⟩) (h j hj) hr

theorem Sl.shape {w : World} {E : TypeId} {v : Value} {n : Nat} {vals : List Value} (h : Sl w E v n vals) : ∃ p c, v = .slice p n c := by
  obtain ⟨p, c, e, _⟩ := h
  exact ⟨p, c, e⟩

end Go.Proofs.YtiooindlpinjhaaDoor

/- Walks: the program's isSeries, SeriesIn, FoldedOf, TwoOrder. -/
namespace Go.Proofs.YtiooindlpinjhaaDoor
open Go.RowKit

theorem all_any' (p : Option Addr) (n c M : Nat) (hn : n < 32) (hM : M = 2 ^ n - 1) (w : World) :
    Calls Tryd.prog 56 #[.slice p n c] w fun e w' => e = .returned (.int .u32 (M : Int)) ∧ w = w' := by
  subst hM; exact all_any p n c hn w

theorem bits_nil {l : Nat} (h : l < 65536) : (bitsOf l).length = 0 ↔ l = 0 := by
  constructor
  · intro e
    by_cases h0 : l = 0
    · exact h0
    · have := bitsOf_step l h0 (by omega)
      rw [this] at e
      simp at e
  · rintro rfl; rw [bitsOf_zero]; rfl

theorem nOk_start {g : List (List Int)} (h : GOk g) {M : Nat} (hM : M = 2 ^ g.length - 1) : NOk (netL g) M ∧ (bitsOf M).length ≤ 16 ∧ (netL g).length = g.length := by
  subst hM
  have hs := same_start h
  refine ⟨⟨hs.le, hs.lt, hs.left16, hs.inn⟩, ?_, hs.len.symm⟩
  have := natInts_range g.length h.le
  rw [← natInts_length, this, allL_length]
  exact h.le

theorem foldsN_S {g : List (List Int)} (h : GOk g) {M : Nat} (hM : M = 2 ^ g.length - 1) {fs : List Fd} {l : Nat} {a' : List Nat} (hf : FoldsN (netL g) M fs l a') : ∃ g', Folds g (allL g.length) fs (natInts (bitsOf l)) g' := by
  subst hM
  obtain ⟨g', h1, _⟩ := hf.same (same_start h)
  exact ⟨g', h1⟩

end Go.Proofs.YtiooindlpinjhaaDoor

/- Walks: the program's least widths, remembered in a map (newWidths, widths.after, widths.with). -/
namespace Go.Proofs.YtiooindlpinjhaaDoor
open Go.RowKit Go.Maps

def kyW (s : Nat) : Lit := .int .u32 (s : Int)
theorem kyW_ne {s t : Nat} (h : t ≠ s) : kyW t ≠ kyW s := fun e => h (by
  unfold kyW at e
  injection e with _ e
  omega)
theorem kyW_key (s : Nat) : WideAt.IsKeyLit (kyW s) := by simp [kyW, WideAt.IsKeyLit]
theorem wf_u32 {s : Nat} (h : s < 65536) : (Lit.int .u32 (s : Int)).wf = true := by
  have e1 : IntKind.u32.min = 0 := by rfl
  have e2 : IntKind.u32.max = 4294967295 := by rfl
  simp only [Lit.wf, e1, e2, Bool.and_eq_true, decide_eq_true_eq]
  omega
theorem wf_i64 {s : Nat} (h : s < 65536) : (Lit.int .i64 (s : Int)).wf = true := by
  have e1 : IntKind.i64.min = -9223372036854775808 := by rfl
  have e2 : IntKind.i64.max = 9223372036854775807 := by rfl
  simp only [Lit.wf, e1, e2, Bool.and_eq_true, decide_eq_true_eq]
  omega
theorem law_u32 : Keyed Tryd.prog 71 := int_keyed Tryd.underlying71
theorem zero_int (w : World) : (zeroValue 3).run Tryd.prog w = .ok (.int .i64 0) w := by kernel_rfl
theorem key_u32 {s : Nat} (h : s < 65536) : keyOf Tryd.prog 71 (.int .u32 (s : Int)) = some (kyW s) := keyOf_int_mk Tryd.underlying71 (wf_u32 h)

/-- How many are known. -/
noncomputable def knW (D : DataW Unit) : Nat := (List.range 65536).countP fun s => Maps.has D (kyW s)
theorem knW_le (D : DataW Unit) : knW D ≤ 65536 := by
  have : knW D ≤ (List.range 65536).length := List.countP_le_length
  rwa [List.length_range] at this
theorem knW_put {D : DataW Unit} (hD : IsMap D) {s : Nat} (hs : s < 65536) (hn : Maps.has D (kyW s) = false) (d : DataW Unit) : knW (D.put (kyW s) d) = knW D + 1 := by
  obtain ⟨R, h1, h2, _⟩ := out_one (L := List.range 65536) List.nodup_range (List.mem_range.2 hs)
  unfold knW
  rw [h1.countP_eq, h1.countP_eq, List.countP_cons, List.countP_cons, has_put_same hD (kyW_key s), hn]
  simp only [if_true, Bool.false_eq_true, if_false, Nat.add_zero]
  refine congrArg (· + 1) (List.countP_congr fun t ht => ?_)
  have hts : t ≠ s := fun e => h2 (by rw [← e]; exact ht)
  rw [has_put_other (kyW_ne hts)]

/-- The widths as they are remembered. -/
structure WthI (w1 w : World) (n : Nat) (E : Nat → Nat → Bool) (xp : Option Addr) (xc xb mb c : Nat) (D : DataW Unit) : Prop where
  bel : Below w1.heap.size w1 w
  blk : w.heap[xb]? = some (.cells #[.slice xp n xc, .map (some mb)] 134 (0, 0))
  map : w.ownsMap Tryd.prog 71 (plainElem Tryd.prog 3) mb c D
  lo : w1.heap.size ≤ mb
  val : ∀ s, s < 65536 → Maps.has D (kyW s) = true → D.atKey (kyW s) (.lit (.int .i64 0)) = .lit (.int .i64 (twS n E s : Int))
  cnt : c ≤ knW D
section
variable {w1 w w' : World} {n : Nat} {E : Nat → Nat → Bool} {xp : Option Addr} {xc xb mb c : Nat} {D : DataW Unit}
theorem WthI.c0 (h : WthI w1 w n E xp xc xb mb c D) : w.cell? ⟨xb, 0, none⟩ = some (.slice xp n xc) := by unfold World.cell?; rw [h.blk]; rfl
theorem WthI.c1 (h : WthI w1 w n E xp xc xb mb c D) : w.cell? ⟨xb, 1, none⟩ = some (.map (some mb)) := by unfold World.cell?; rw [h.blk]; rfl
theorem WthI.ltx (h : WthI w1 w n E xp xc xb mb c D) : xb < w.heap.size := lt_of_block h.blk
theorem WthI.room (h : WthI w1 w n E xp xc xb mb c D) : c < maxLen := by
  have h1 := h.cnt
  have h2 := knW_le D
  unfold maxLen
  omega
theorem WthI.ne (h : WthI w1 w n E xp xc xb mb c D) : xb ≠ mb := fun e => by
  obtain ⟨es, cl, hb, _⟩ := h.map
  rw [← e, h.blk] at hb
  cases hb
theorem WthI.next (h : WthI w1 w n E xp xc xb mb c D) (hb : Below w.heap.size w w') : WthI w1 w' n E xp xc xb mb c D :=
  ⟨h.bel.trans (hb.mono h.bel.size), (hb.block _ h.ltx).trans h.blk, h.map.kept (grown_of_below hb none) (by simp), h.lo, h.val, h.cnt⟩
theorem WthI.put (h : WthI w1 w n E xp xc xb mb c D) {s : Nat} (hs : s < 65536) (hn : Maps.has D (kyW s) = false) {f : Int} (hf : f = (twS n E s : Int)) (hm : w'.ownsMap Tryd.prog 71 (plainElem Tryd.prog 3) mb (c + 1) (D.put (kyW s) (.lit (.int .i64 f)))) (hg : w.grownBy w' (some mb)) :
    WthI w1 w' n E xp xc xb mb (c + 1) (D.put (kyW s) (.lit (.int .i64 f))) where
  bel := h.bel.grown hg h.bel.size (fun k hk => by cases hk; exact h.lo)
  blk := (hg.block _ h.ltx (fun e => h.ne (by simpa using e))).trans h.blk
  map := hm
  lo := h.lo
  val t ht hk := by
    by_cases e : t = s
    · subst e
      rw [atKey_put_same h.map.isMap (kyW_key t), hf]
    · rw [has_put_other (kyW_ne e)] at hk
      rw [atKey_put_other (kyW_ne e)]
      exact h.val t ht hk
  cnt := by
    rw [knW_put h.map.isMap hs hn]
    have := h.cnt
    omega
end

set_option maxRecDepth 100000 in
set_option maxHeartbeats 1000000 in
theorem newWidths_any (xp : Option Addr) (xc n : Nat) (E : Nat → Nat → Bool) (w : World) :
    Calls Tryd.prog 90 #[.slice xp n xc] w fun e w' => e = .returned (.pointer (some ⟨w.heap.size + 1, 0, none⟩)) ∧ WthI w w' n E xp xc (w.heap.size + 1) w.heap.size 0 (.map []) := by
  have hmm := @run_makeMap Tryd.prog
  have HI : Hid (WthI w ((w.alloc (.map #[] 0)).alloc (.cells #[.slice xp n xc, .map (some w.heap.size)] 134)) n E xp xc (w.heap.size + 1) w.heap.size 0 (.map [])) := Lib.hid {
    bel := below_alloc2 w _ _
    blk := by
      have := heap_alloc_new (w.alloc (.map #[] 0)) (.cells #[.slice xp n xc, .map (some w.heap.size)] 134)
      rw [size_alloc] at this
      exact this
    map := (World.ownsMap_made w _ _ _).alloc _
    lo := Nat.le_refl _
    val := fun s _ h => by rw [Maps.has_eq] at h; simp at h
    cnt := Nat.zero_le _ }
  go_enter Tryd.func90, Tryd.ntmps90
  go_wp2
  go_ret
  exact ⟨rfl, HI.out⟩

/-- What after and with leave. -/
structure WthP (w1 w w' : World) (n : Nat) (E : Nat → Nat → Bool) (xp : Option Addr) (xc xb mb : Nat) (D : DataW Unit) (lo : Nat) : Prop where
  st : ∃ c' D', WthI w1 w' n E xp xc xb mb c' D' ∧ ∀ t, t < 65536 → Maps.has D' (kyW t) = true → Maps.has D (kyW t) = true ∨ lo ≤ t
  grow : w.grownBy w' (some mb)

theorem lt_put {s v : Nat} (h : s.testBit v = false) : s < s ||| 2 ^ v := by
  refine Nat.lt_of_le_of_ne Nat.left_le_or fun e => ?_
  have h1 : (s ||| 2 ^ v).testBit v = true := by rw [testBit_put]; simp
  rw [← e, h] at h1
  cases h1

set_option maxRecDepth 100000 in
set_option maxHeartbeats 4000000 in
theorem widthsWith_any (w1 : World) (n : Nat) (E : Nat → Nat → Bool) (xp : Option Addr) (xc xb mb s v : Nat) (hE : ∀ x y, E x y = true → y < n) (hNE : NE w1 (.slice xp n xc) n E) (hT1 : Tab w1) (hs : s < 2 ^ n) (hsn : ∀ i, s.testBit i = true → i < n) (hv : v < n)
    (AFT : ∀ (w : World) (c : Nat) (D : DataW Unit), WthI w1 w n E xp xc xb mb c D → Calls Tryd.prog 91 #[.pointer (some ⟨xb, 0, none⟩), .int .u32 ((s ||| 2 ^ v : Nat) : Int)] w fun e w' => e = .returned (.int .i64 (twS n E (s ||| 2 ^ v) : Int)) ∧ WthP w1 w w' n E xp xc xb mb D (s ||| 2 ^ v))
    (w : World) (c : Nat) (D : DataW Unit) (hI : WthI w1 w n E xp xc xb mb c D) :
    Calls Tryd.prog 136 #[.pointer (some ⟨xb, 0, none⟩), .int .u32 (s : Int), .int .i64 (v : Int)] w fun e w' => e = .returned (.int .i64 (valS n E s v : Int)) ∧ WthP w1 w w' n E xp xc xb mb D (s ||| 2 ^ v) := by
  have n16 := hNE.le
  have hs16 : s < 65536 := by
    have h2 : 2 ^ n ≤ 2 ^ 16 := Nat.pow_le_pow_right (by decide) n16
    omega
  have HI := Lib.hid hI
  have HNE := Lib.hid hNE
  have HT1 := Lib.hid hT1
  have HE := Lib.hid hE
  have HSN := Lib.hid hsn
  have HA := Lib.hid AFT
  have c0 := hI.c0
  obtain ⟨pv, hpv⟩ : ∃ pv, pv = 2 ^ v := ⟨_, rfl⟩
  have hp16 : pv < 65536 := by rw [hpv]; exact pow_lt16 v (by omega)
  have ONE : Hid (∀ w, Calls Tryd.prog 70 #[.int .i64 (v : Int)] w fun e w' => e = .returned (.int .u32 (pv : Int)) ∧ w = w') := Lib.hid (by rw [hpv]; exact fun w => one_any (v : Int) v rfl (by omega) w)
  obtain ⟨t, ht⟩ : ∃ t, t = s ||| 2 ^ v := ⟨_, rfl⟩
  have hor : bits BinOp.or IntKind.u32 (s : Int) (pv : Int) = (t : Int) := by rw [ht, ← hpv]; exact u32_or_nat s pv (by omega) (by omega)
  obtain ⟨bl, hbl⟩ : ∃ bl, bl = (behS n E s v).length := ⟨_, rfl⟩
  obtain ⟨tw, htw⟩ : ∃ tw, tw = twS n E t := ⟨_, rfl⟩
  obtain ⟨mx, hmx⟩ : ∃ mx, mx = valS n E s v := ⟨_, rfl⟩
  have hmx2 : mx = max bl tw := by rw [hmx, hbl, htw, ht]; rfl
  have hmi : (if (bl : Int) < (tw : Int) then (tw : Int) else (bl : Int)) = (mx : Int) := by split <;> omega
  rw [← ht] at HA ⊢
  rw [← htw] at HA
  rw [← hmx]
  have BEH : Hid (∀ wz, Below w1.heap.size w1 wz → Calls Tryd.prog 112 #[.slice xp n xc, .int .u32 (s : Int), .int .i64 (v : Int)] wz fun e w' => ∃ m : Nat, e = .returned (.int .u32 (m : Int)) ∧ m < 65536 ∧ bitsOf m = behS n E s v ∧ Below wz.heap.size wz w') := Lib.hid fun wz hb => behind_any xp xc _ _ n E s v rfl rfl HE.out hs16 HSN.out hv wz (HNE.out.next hb) (HT1.out.keep hb)
  have HBL := Lib.hid hbl
  clear hI hNE hT1 hE hsn AFT hpv ht hbl htw hmx
  by_cases hlt : bl < tw
  · obtain rfl : mx = tw := by omega
    have hli : (bl : Int) < (mx : Int) := by omega
    clear hmi hlt hmx2
    go_enter Tryd.func136, Tryd.ntmps136
    go_wp2_with (first
      | (go_at_call 91; refine (HA.out _ _ _ (HI.out.next HB3.out)).mono ?_; rintro e w4 ⟨rfl, hp4⟩; have HP4 := Lib.hid hp4; clear hp4)
      | (go_at_call 60; refine (size16_any _ m rfl hm16 _).mono ?_; rintro e w3 ⟨he, q, hw⟩; rw [hbm, ← HBL.out] at he; subst he; have HB3 : Hid (Below w.heap.size w w3) := Lib.hid (by rw [hw]; exact below_dN HB2.out q); clear hw)
      | (go_at_call 112; refine (BEH.out _ HI.out.bel).mono ?_; rintro e w2 ⟨m, rfl, hm16, hbm, hb2⟩; have HB2 := Lib.hid hb2; clear hb2)
      | (go_at_call 70; refine (ONE.out _).mono ?_; rintro e w9 ⟨rfl, rfl⟩))
    go_ret
    exact ⟨rfl, HP4.out.st, grown_trans (grown_of_below HB3.out _) HP4.out.grow⟩
  · obtain rfl : mx = bl := by omega
    have hli : ¬ (mx : Int) < (tw : Int) := by omega
    clear hmi hlt hmx2
    go_enter Tryd.func136, Tryd.ntmps136
    go_wp2_with (first
      | (go_at_call 91; refine (HA.out _ _ _ (HI.out.next HB3.out)).mono ?_; rintro e w4 ⟨rfl, hp4⟩; have HP4 := Lib.hid hp4; clear hp4)
      | (go_at_call 60; refine (size16_any _ m rfl hm16 _).mono ?_; rintro e w3 ⟨he, q, hw⟩; rw [hbm, ← HBL.out] at he; subst he; have HB3 : Hid (Below w.heap.size w w3) := Lib.hid (by rw [hw]; exact below_dN HB2.out q); clear hw)
      | (go_at_call 112; refine (BEH.out _ HI.out.bel).mono ?_; rintro e w2 ⟨m, rfl, hm16, hbm, hb2⟩; have HB2 := Lib.hid hb2; clear hb2)
      | (go_at_call 70; refine (ONE.out _).mono ?_; rintro e w9 ⟨rfl, rfl⟩))
    go_ret
    exact ⟨rfl, HP4.out.st, grown_trans (grown_of_below HB3.out _) HP4.out.grow⟩

end Go.Proofs.YtiooindlpinjhaaDoor
