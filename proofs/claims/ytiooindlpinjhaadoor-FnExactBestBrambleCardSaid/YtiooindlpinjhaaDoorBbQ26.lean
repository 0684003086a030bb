/- Walks: the program's choice of parts that touch (printed by wip/mkBc.py). -/
import Derived.Test.YtiooindlpinjhaaDoorBbQ25
namespace Go.Proofs.YtiooindlpinjhaaDoor
open Go.RowKit

/-- append as one operation of a drawn region; what is appended lies anywhere. -/
theorem step_app1g {P : Program} {T E : TypeId} {z : Value} {bytes : Nat} (S : SlTy P T E z 1 bytes) {w : World} {ops : Array Oper} {o : Oper} {a : Act} {K : Act → World → Prop} {Q : Exit → Act → World → Prop} {F : Prop}
    (hgd : o.guard = none) {s x : Operand} (ho : o.op = .call { callee := .builtin .append, args := #[s, x], argTypes := #[T, T] })
    {base : Nat} {v xv : Value} {n : Nat} {xs : List Value} {el : Value} (hs : a.eval s = v) (hown : w.ownsRow base E 1 v n xs)
    (hx : a.eval x = xv) (hu : Sl w E xv 1 [el]) (h1 : el.oneCell' = true)
    (hnm : n < 1000000000) (hbase : base ≤ w.heap.size)
    (h : ∀ b c w', w'.ownsRow base E 1 (.slice (some ⟨b, 0, none⟩) (n + 1) c) (n + 1) (xs ++ [el]) → w.grownBy w' v.ownBlock → K (a.put o.dst (.slice (some ⟨b, 0, none⟩) (n + 1) c)) w') :
    if Region.wanted o (yielded ops a.tmps) = true then Oper.wp P o a w K Q else F := by
  have hw : Region.wanted o (yielded ops a.tmps) = true := by simp [Region.wanted, hgd]
  rw [if_pos hw]
  obtain ⟨v', w', hr, h2, h3, h4⟩ := run_app S w o.type base v n xs hown _ 1 [el] hu (by simp) (by simpa using h1) (by omega) (by omega)
  unfold Oper.wp execOp
  simp only [ho, resolve, invoke, builtin, Sem.run_bind, Sem.run_pure, Result.andThen_ok, List.map_toArray, List.map_cons, List.map_nil, hs, hx, hr]
  rcases id h2.2 with ⟨_, h0⟩ | ⟨g, cap, cur, rfl, _⟩
  · omega
  · exact h g cap w' h2 h3
theorem sl_oneBb (w : World) (E : TypeId) (el : Value) : Sl (w.alloc (.cells #[el] E)) E (.slice (some ⟨w.heap.size, 0, none⟩) 1 1) 1 [el] := by
  refine ⟨_, 1, rfl, (fun e => by cases e), Nat.le_refl _, by omega, Or.inr ⟨w.heap.size, 0, #[el], (0, 0), rfl, heap_alloc_new w _, fun j u hu => ?_⟩⟩
  cases j with
  | zero => simpa using hu
  | succ j => simp at hu
theorem one_vset (l : List Nat) : ∀ x ∈ l.map u32v, x.oneCell' = true := fun x hx => by
  obtain ⟨s, _, rfl⟩ := List.mem_map.1 hx
  rfl

theorem decide_dec_iffBb {p q : Prop} [Decidable p] (h : p ↔ q) : decide p = dec q := by
  by_cases k : p
  · rw [dec_true (h.1 k)]; simp [k]
  · rw [dec_false (fun c => k (h.2 c))]; simp [k]

set_option maxRecDepth 100000 in
set_option maxHeartbeats 1000000 in
theorem cloneSets_any (ad : Addr) (n c : Nat) (vals : List Value) (h1 : ∀ x ∈ vals, x.oneCell' = true) (hl : vals.length = n) (w : World) (hx : Sl w 71 (.slice (some ad) n c) n vals) :
    Calls Tryd.prog 142 #[.slice (some ad) n c] w fun e w' => ∃ u, e = .returned u ∧ w'.ownsRow w.heap.size 71 1 u n vals ∧ Below w.heap.size w w' := by
  have hn : n ≤ 1000000000 := by obtain ⟨_, _, _, _, _, h, _⟩ := hx; exact h
  have hx' := hx.below (below_alloc w (.cells #[] 71))
  have ho := ownsRow_empty w 71 1
  have hb := below_alloc w (.cells #[] 71)
  have hsz : w.heap.size ≤ (w.alloc (.cells #[] 71)).heap.size := hb.size
  have Hl := Lib.hid hl
  clear hl
  have hnl : ∀ w, Sem.run Tryd.prog (binOp BinOp.eql 66 (.slice (some ad) n c) (.slice none 0 0)) w = .ok (.bool false) w := fun w => rfl
  go_enter Tryd.func142, Tryd.ntmps142
  go_wp2_with (at_builtin; refine wpList_app ty_vsets rfl rfl rfl ho rfl hx' (by have := Hl.out; omega) h1 (by omega) hsz ?_; intro v' w1 hown' hg _)
  go_ret
  exact ⟨_, rfl, by simpa using hown', below_grown hb ho hg (Nat.le_refl _) hsz⟩

/-- What stands below a test of one part. -/
structure CpB (w : World) (n : Nat) (E : Nat → Nat → Bool) (xp : Option Addr) (xc ab sb s : Nat) : Prop where
  boxA : Box w ab 67 (.slice xp n xc)
  boxS : Box w sb 71 (.int .u32 (s : Int))
  ne : NE w (.slice xp n xc) n E
  tab : Tab w
  s16 : s < 65536
  sn : ∀ i, s.testBit i = true → i < n
theorem CpB.next {w w' : World} {n : Nat} {E : Nat → Nat → Bool} {xp : Option Addr} {xc ab sb s : Nat} (h : CpB w n E xp xc ab sb s) (hb : Below w.heap.size w w') : CpB w' n E xp xc ab sb s :=
  ⟨h.boxA.keep hb, h.boxS.keep hb, h.ne.next hb, h.tab.keep hb, h.s16, h.sn⟩

set_option maxRecDepth 100000 in
set_option maxHeartbeats 1000000 in
theorem noTouch_any (z : Int) (t : Nat) (hz : z = t) (ht : t < 65536) (n : Nat) (E : Nat → Nat → Bool) (xp : Option Addr) (xc ab sb s : Nat) (htn : ∀ i, t.testBit i = true → i < n) (w : World) (h : CpB w n E xp xc ab sb s) :
    Calls Tryd.prog 140 #[.int .u32 z, .pointer (some ⟨ab, 0, none⟩), .pointer (some ⟨sb, 0, none⟩)] w fun e w' => e = .returned (.bool (dec (¬ TouchM E s t))) ∧ Below w.heap.size w w' := by
  subst hz
  have ca := h.boxA.cell
  have cs := h.boxS.cell
  have H := Lib.hid h
  have HTN := Lib.hid htn
  obtain ⟨d, hd⟩ : ∃ d, d = dec (TouchM E s t) := ⟨_, rfl⟩
  have HD : Hid ((!d) = dec (¬ TouchM E s t)) := Lib.hid (by
    rw [hd]
    by_cases k : TouchM E s t
    · rw [dec_true k, dec_false (fun c => c k)]; rfl
    · rw [dec_false k, dec_true k]; rfl)
  have TCH : Hid (∀ wz, Below w.heap.size w wz → Calls Tryd.prog 141 #[.slice xp n xc, .int .u32 (s : Int), .int .u32 (t : Int)] wz fun e w' => e = .returned (.bool d) ∧ Below wz.heap.size wz w') := Lib.hid fun wz hb => by
    have hk := H.out.next hb
    rw [hd]
    exact touches_any (.slice xp n xc) (s : Int) (t : Int) n E s t rfl rfl hk.s16 ht hk.sn HTN.out wz hk.ne hk.tab
  clear h htn hd
  go_enter Tryd.func140, Tryd.ntmps140
  go_wp2_with (go_at_call 141; refine (TCH.out _ (by first | exact Below.refl _ _ | exact below_dN (Below.refl _ _) _)).mono ?_; rintro e w3 ⟨rfl, hb3⟩; have HB3 := Lib.hid ((below_dN (Below.refl w.heap.size w) 0).trans hb3); clear hb3)
  go_ret
  exact ⟨ret_bool HD.out, HB3.out⟩

set_option maxRecDepth 100000 in
set_option maxHeartbeats 2000000 in
theorem indexNo_any (n : Nat) (E : Nat → Nat → Bool) (xp : Option Addr) (xc ab sb s : Nat) (ms : List Nat) (hm16 : ∀ m ∈ ms, m < 65536) (hmn : ∀ m ∈ ms, ∀ i, m.testBit i = true → i < n) (lp : Option Addr) (lc : Nat) (w : World) (h : CpB w n E xp xc ab sb s) (hs : Sl w 71 (.slice lp ms.length lc) ms.length (ms.map u32v)) :
    Calls Tryd.prog 158 #[.slice lp ms.length lc, .func (.func 140) #[] #[.pointer (some ⟨ab, 0, none⟩), .pointer (some ⟨sb, 0, none⟩)]] w fun e w' =>
      ∃ z : Int, e = .returned (.int .i64 z) ∧ (0 ≤ z ↔ ∃ m ∈ ms, ¬ TouchM E s m) ∧ Below w.heap.size w w' := by
  have HC := Lib.hid h
  have HSL := Lib.hid hs
  have HM16 := Lib.hid hm16
  have HMN := Lib.hid hmn
  have few : ms.length ≤ 1000000000 := by obtain ⟨_, _, _, _, _, h, _⟩ := hs; exact h
  clear h hs hm16 hmn
  go_enter Tryd.func158, Tryd.ntmps158
  go_wp2
  go_loopw [8] (fun i wr => ∃ k : Nat, k ≤ ms.length ∧ i = .int .i64 k ∧ Hid (∀ j (h : j < ms.length), j < k → ¬ ¬ TouchM E s ms[j]) ∧ Hid (Below w.heap.size w wr)) (fun i _ => ms.length - (intOf i).toNat)
  case atStart => exact ⟨0, Nat.zero_le _, rfl, Lib.hid (fun j _ hj => absurd hj (Nat.not_lt_zero _)), Lib.hid (by first | exact Below.refl _ _ | exact below_dN (Below.refl _ _) _)⟩
  case round =>
    obtain ⟨k, hk, rfl, HNO, HB⟩ := hrel
    by_cases hlt : k < ms.length
    · obtain ⟨m, hm⟩ : ∃ m, m = ms[k] := ⟨_, rfl⟩
      have hmem : m ∈ ms := by rw [hm]; exact List.getElem_mem hlt
      have hm16 := HM16.out m hmem
      obtain ⟨qb, qo, rfl, hq⟩ := nets_cell (HSL.out.below HB.out) (v := k) hlt
      rw [← hm] at hq
      have HM := Lib.hid hm
      have HMEM := Lib.hid hmem
      clear hm hmem
      by_cases hj : ¬ TouchM E s m
      · have HJ := Lib.hid hj
        have hd := Lib.hid (dec_true hj)
        clear hj
        go_wp2_with (go_at_call 140; refine (noTouch_any _ m rfl hm16 n E xp xc ab sb s (HMN.out m HMEM.out) _ ((HC.out.next HB.out).next (by first | exact Below.refl _ _ | exact below_dN (Below.refl _ _) _))).mono ?_; rintro e w2 ⟨he, hw⟩; rw [hd.out] at he; subst he; have HB2 : Hid (Below w.heap.size w w2) := Lib.hid (HB.out.trans (Below.mono hw HB.out.size)); clear hw)
        go_ret
        exact ⟨k, rfl, ⟨fun _ => ⟨m, HMEM.out, HJ.out⟩, fun _ => by omega⟩, HB2.out⟩
      · have HJ := Lib.hid hj
        have hd := Lib.hid (dec_false hj)
        clear hj
        go_wp2_with (go_at_call 140; refine (noTouch_any _ m rfl hm16 n E xp xc ab sb s (HMN.out m HMEM.out) _ ((HC.out.next HB.out).next (by first | exact Below.refl _ _ | exact below_dN (Below.refl _ _) _))).mono ?_; rintro e w2 ⟨he, hw⟩; rw [hd.out] at he; subst he; have HB2 : Hid (Below w.heap.size w w2) := Lib.hid (HB.out.trans (Below.mono hw HB.out.size)); clear hw)
        go_roundw
        case rel => exact ⟨k + 1, by omega, by go_num, Lib.hid (fun j h hj => by
          by_cases e : j < k
          · exact HNO.out j h e
          · obtain rfl : j = k := by omega
            rw [← HM.out]
            exact HJ.out), HB2⟩
        case measure => simp [intOf]; omega
    · obtain rfl : k = ms.length := by omega
      go_wp2
      go_ret
      exact ⟨-1, rfl, ⟨fun h => by omega, fun ⟨m, h1, h2⟩ => by
        obtain ⟨j, hj, e⟩ := List.getElem_of_mem h1
        exact absurd (e ▸ h2) (HNO.out j hj hj)⟩, HB.out⟩

set_option maxRecDepth 100000 in
set_option maxHeartbeats 1000000 in
theorem containsNo_any (n : Nat) (E : Nat → Nat → Bool) (xp : Option Addr) (xc ab sb s : Nat) (ms : List Nat) (hm16 : ∀ m ∈ ms, m < 65536) (hmn : ∀ m ∈ ms, ∀ i, m.testBit i = true → i < n) (lp : Option Addr) (lc : Nat) (w : World) (h : CpB w n E xp xc ab sb s) (hs : Sl w 71 (.slice lp ms.length lc) ms.length (ms.map u32v)) :
    Calls Tryd.prog 139 #[.slice lp ms.length lc, .func (.func 140) #[] #[.pointer (some ⟨ab, 0, none⟩), .pointer (some ⟨sb, 0, none⟩)]] w fun e w' =>
      e = .returned (.bool (dec (∃ m ∈ ms, ¬ TouchM E s m))) ∧ Below w.heap.size w w' := by
  have HC := Lib.hid h
  have HSL := Lib.hid hs
  have HM16 := Lib.hid hm16
  have HMN := Lib.hid hmn
  clear h hs hm16 hmn
  go_enter Tryd.func139, Tryd.ntmps139
  go_wp2_with (go_at_call 158; refine (indexNo_any n E xp xc ab sb s ms HM16.out HMN.out lp lc _ HC.out HSL.out).mono ?_; rintro e w2 ⟨z, rfl, hz, hb⟩; have HZ := Lib.hid hz; have HB := Lib.hid hb; clear hz hb)
  go_ret
  exact ⟨ret_bool (decide_dec_iffBb HZ.out), HB.out⟩

/-- Whether the second touches the first. -/
def TchE (E : Nat → Nat → Bool) (t p : List Nat) : Prop := TouchM E (mask (natInts p)) (mask (natInts t))
/-- What a choice hands back. -/
def ResP (w : World) (u : Value) : Option (List (List Nat)) → Prop
  | none => u = .slice none 0 0
  | some L => ∃ b c, u = .slice (some ⟨b, 0, none⟩) L.length c ∧ Sl w 71 u L.length ((mskL L).map u32v)
/-- Rows of sets that are read alone. -/
def CR (w : World) (v : Value) (C : List (List (List Nat))) : Prop :=
  ∃ vals, vals.length = C.length ∧ Sl w 66 v C.length vals ∧ ∀ j, j < C.length → Sl w 71 (vals.getD j undef) (C.getD j []).length ((mskL (C.getD j [])).map u32v)
theorem CR.next {w w' : World} {v : Value} {C : List (List (List Nat))} (h : CR w v C) (hb : Below w.heap.size w w') : CR w' v C := by
  obtain ⟨vals, h1, h2, h3⟩ := h
  exact ⟨vals, h1, h2.below hb, fun j hj => (h3 j hj).below hb⟩
theorem SV.cr {w : World} {base : Nat} {v : Value} {C : List (List (List Nat))} (h : SV w base v C) (hl : C.length ≤ 1000000000) : CR w v C := by
  obtain ⟨vals, h1, h2, h3⟩ := h
  exact ⟨vals, h1, Sl.of_owns h2 hl, h3⟩
theorem CR.get {w : World} {p : Option Addr} {m c : Nat} {C : List (List (List Nat))} (h : CR w (.slice p m c) C) {q : Nat} (hq : q < C.length) :
    ∃ (b o : Nat) (rp : Option Addr) (rc : Nat), p = some ⟨b, o, none⟩ ∧ w.cell? ⟨b, o + q, none⟩ = some (.slice rp (C.getD q []).length rc) ∧ Sl w 71 (.slice rp (C.getD q []).length rc) (C.getD q []).length ((mskL (C.getD q [])).map u32v) := by
  obtain ⟨vals, h1, h2, h3⟩ := h
  obtain ⟨p', c', he, _, _, _, hat⟩ := h2
  simp only [Value.slice.injEq] at he
  obtain ⟨rfl, _, rfl⟩ := he
  obtain ⟨b, o, e1, e2⟩ := hat.cells (k := q) (by omega)
  have h4 := h3 q hq
  obtain ⟨rp, rc, e3⟩ : ∃ rp rc, vals.getD q undef = .slice rp (C.getD q []).length rc := by
    obtain ⟨rp, rc, e, _⟩ := h4
    exact ⟨rp, rc, e⟩
  rw [e3] at h4
  refine ⟨b, o, rp, rc, e1, ?_, h4⟩
  rw [e2 q (vals.getD q undef) (by rw [List.getD_eq_getElem?_getD, List.getElem?_eq_getElem (by omega)]; rfl), e3]

/-- One part of a choice. -/
noncomputable def pkF (Tch : List Nat → List Nat → Prop) (C : List (List (List Nat))) (r : Nat) (ch : List (List Nat)) (p : List Nat) : Option (List (List Nat)) := if dec (∀ t ∈ ch, Tch t p) = true then pickN Tch C r (ch ++ [p]) else none
theorem pick_none {Tch : List Nat → List Nat → Prop} {C : List (List (List Nat))} {r : Nat} {ch : List (List Nat)} (h : ∀ j (hj : j < (C.getD ch.length []).length), pkF Tch C r ch (C.getD ch.length [])[j] = none) : pickN Tch C (r + 1) ch = none := by
  show (C.getD ch.length []).findSome? (pkF Tch C r ch) = none
  rw [List.findSome?_eq_none_iff]
  intro p hp
  obtain ⟨j, hj, rfl⟩ := List.getElem_of_mem hp
  exact h j hj
theorem pick_some {Tch : List Nat → List Nat → Prop} {C : List (List (List Nat))} {r : Nat} {ch L : List (List Nat)} {k : Nat} (hk : k < (C.getD ch.length []).length) (h : ∀ j (hj : j < (C.getD ch.length []).length), j < k → pkF Tch C r ch (C.getD ch.length [])[j] = none) (hs : pkF Tch C r ch (C.getD ch.length [])[k] = some L) : pickN Tch C (r + 1) ch = some L := by
  show (C.getD ch.length []).findSome? (pkF Tch C r ch) = some L
  rw [List.findSome?_eq_some_iff]
  refine ⟨(C.getD ch.length []).take k, (C.getD ch.length [])[k], (C.getD ch.length []).drop (k + 1), by rw [← List.drop_eq_getElem_cons hk, List.take_append_drop], hs, fun p hp => ?_⟩
  obtain ⟨j, hj, rfl⟩ := List.getElem_of_mem hp
  rw [List.length_take] at hj
  rw [List.getElem_take]
  exact h j (by omega) (by omega)

/-- Sets of vertices. -/
def SetN (n : Nat) (p : List Nat) : Prop := p.Pairwise (· < ·) ∧ ∀ x ∈ p, x < n
theorem SetN.bits {n : Nat} (hn : n ≤ 16) {p : List Nat} (h : SetN n p) : mask (natInts p) < 65536 ∧ ∀ i, (mask (natInts p)).testBit i = true → i < n := by
  have h1 : mask (natInts p) < 65536 := mask_nat_lt16 fun x hx => by have := h.2 x hx; omega
  refine ⟨h1, fun i hi => ?_⟩
  have h2 := (mem_left h1).2 hi
  rw [bitsOf_maskN h.1 fun x hx => by have := h.2 x hx; omega] at h2
  exact h.2 i h2

set_option maxRecDepth 100000 in
set_option maxHeartbeats 8000000 in
theorem choosePart_any (n : Nat) (E : Nat → Nat → Bool) (xp : Option Addr) (xc : Nat) (C : List (List (List Nat))) (cp : Option Addr) (cc m : Nat) (hm : m = C.length) (hC : ∀ j, j < C.length → ∀ p ∈ C.getD j [], SetN n p) (hml : m ≤ 1000000) :
    ∀ (r q : Nat) (ch : List (List Nat)), q = ch.length → q + r = m → (∀ p ∈ ch, SetN n p) → ∀ (hb hc : Nat) (w : World), NE w (.slice xp n xc) n E → Tab w → CR w (.slice cp m cc) C → Sl w 71 (.slice (some ⟨hb, 0, none⟩) q hc) q ((mskL ch).map u32v) →
    Calls Tryd.prog 94 #[.slice xp n xc, .slice cp m cc, .slice (some ⟨hb, 0, none⟩) q hc] w fun e w' => ∃ u, e = .returned u ∧ ResP w' u (pickN (TchE E) C r ch) ∧ Below w.heap.size w w' := by
  intro r
  have HM := Lib.hid hm
  have HCS := Lib.hid hC
  clear hm hC
  induction r with
  | zero =>
    rintro q ch hq hqm _ hb hc w _ _ _ hsl
    obtain rfl : q = m := by omega
    have HQ := Lib.hid hq
    have HSL := Lib.hid hsl
    clear hq hsl hqm
    go_enter Tryd.func94, Tryd.ntmps94
    go_wp2
    go_ret
    exact ⟨_, rfl, ⟨hb, hc, by rw [HQ.out]; rfl, by have := HSL.out.below (below_alloc w (.cells #[.slice xp n xc] 67)); rw [HQ.out] at this ⊢; exact this⟩, below_alloc _ _⟩
  | succ r ih =>
    rintro q ch hq hqm hch hb hc w hne hT hcr hsl
    have n16 := hne.le
    have hql : q < m := by omega
    have hqi : (q : Int) < (m : Int) := by omega
    have hneq : ((q : Int) == (m : Int)) = false := by simp; omega
    obtain ⟨w1, hw1⟩ : ∃ w1, w1 = w.alloc (.cells #[.slice xp n xc] 67) := ⟨_, rfl⟩
    have hb1 : Below w.heap.size w w1 := by rw [hw1]; exact below_alloc _ _
    have HBA : Hid (Box w1 w.heap.size 67 (.slice xp n xc)) := Lib.hid (by rw [hw1]; exact Box.new _ _ _)
    obtain ⟨ab, hab⟩ : ∃ ab, ab = w.heap.size := ⟨_, rfl⟩
    rw [← hab] at HBA
    have HB1 := Lib.hid hb1
    have s1 := hb1.size
    have HNE := Lib.hid (hne.next hb1)
    have HT := Lib.hid (hT.keep hb1)
    have HCR := Lib.hid (hcr.next hb1)
    have HSL := Lib.hid (hsl.below hb1)
    have HQ := Lib.hid hq
    have HCH := Lib.hid hch
    have HMR : Hid (q + 1 + r = m) := Lib.hid (by omega)
    have IH := Lib.hid ih
    obtain ⟨P, hP⟩ : ∃ P, P = C.getD q [] := ⟨_, rfl⟩
    obtain ⟨qb, qo, rp, rc, rfl, hcq, hrow⟩ := HCR.out.get (q := q) (by rw [← HM.out]; exact hql)
    rw [← hP] at hcq hrow
    have HROW := Lib.hid hrow
    have HP := Lib.hid hP
    have HPS : Hid (∀ p ∈ P, SetN n p) := Lib.hid (by rw [hP]; exact HCS.out q (by rw [← HM.out]; exact hql))
    obtain ⟨pl, hpl⟩ : ∃ pl, pl = P.length := ⟨_, rfl⟩
    have hpl9 : pl ≤ 1000000000 := by obtain ⟨_, _, _, _, _, h, _⟩ := hrow; rw [hpl]; exact h
    rw [← hpl] at hcq
    have HPL := Lib.hid hpl
    clear hne hT hcr hsl hq hch hrow hP hb1 ih hqm hpl
    go_enter Tryd.func94, Tryd.ntmps94
    go_upto_region 1 with fail
    rw [← hw1, ← hab]
    clear hw1 hab
    go_wp2
    go_loopw [22] (fun i wr => ∃ k : Nat, k ≤ pl ∧ i = .int .i64 k ∧ Hid (∀ j (h : j < P.length), j < k → pkF (TchE E) C r ch P[j] = none) ∧ Hid (Below w1.heap.size w1 wr)) (fun i _ => pl - (intOf i).toNat)
    case atStart => exact ⟨0, Nat.zero_le _, rfl, Lib.hid (fun j _ hj => absurd hj (Nat.not_lt_zero _)), Lib.hid (by first | exact Below.refl _ _ | exact below_dN (Below.refl _ _) _)⟩
    case round =>
      clear hcq
      obtain ⟨k, hk, rfl, HNO, HB⟩ := hrel
      by_cases hlt : k < pl
      · have hlP : k < P.length := by rw [← HPL.out]; exact hlt
        obtain ⟨p, hp⟩ : ∃ p, p = P[k] := ⟨_, rfl⟩
        have hpm : p ∈ P := by rw [hp]; exact List.getElem_mem hlP
        have hps := HPS.out p hpm
        obtain ⟨s, hs⟩ : ∃ s, s = mask (natInts p) := ⟨_, rfl⟩
        have hsm := hps.bits n16
        rw [← hs] at hsm
        obtain ⟨tb, t0, rfl, htc⟩ : ∃ b o, rp = some ⟨b, o, none⟩ ∧ wr.cell? ⟨b, o + k, none⟩ = some (.int .u32 (s : Int)) := by
          have h1 := HROW.out.below HB.out
          have h2 : P.length = (mskL P).length := (mskL_length P).symm
          have h3 : Sl wr 71 (.slice rp P.length rc) (mskL P).length ((mskL P).map u32v) := by rw [← h2]; exact h1
          obtain ⟨b, o, e1, e2⟩ := nets_cell (v := k) h3 (by rw [← h2]; exact hlP)
          refine ⟨b, o, e1, ?_⟩
          rw [e2]
          simp [mskL, hs, hp]
        obtain ⟨w2, hw2⟩ : ∃ w2, w2 = wr.alloc (.cells #[.int .u32 (s : Int)] 71) := ⟨_, rfl⟩
        obtain ⟨sb, hsb⟩ : ∃ sb, sb = wr.heap.size := ⟨_, rfl⟩
        have hb2 : Below wr.heap.size wr w2 := by rw [hw2]; exact below_alloc _ _
        have hB2 : Below w1.heap.size w1 w2 := HB.out.trans (hb2.mono HB.out.size)
        have HB2 := Lib.hid hB2
        have s2 := hB2.size
        have HCP : Hid (CpB w2 n E xp xc ab sb s) := Lib.hid ⟨HBA.out.keep hB2, by rw [hw2, hsb]; exact Box.new _ _ _, HNE.out.next hB2, HT.out.keep hB2, hsm.1, hsm.2⟩
        have CNO : Hid (∀ wz, Below w2.heap.size w2 wz → Calls Tryd.prog 139 #[.slice (some ⟨hb, 0, none⟩) q hc, .func (.func 140) #[] #[.pointer (some ⟨ab, 0, none⟩), .pointer (some ⟨sb, 0, none⟩)]] wz fun e w' =>
            e = .returned (.bool (dec (∃ t ∈ mskL ch, ¬ TouchM E s t))) ∧ Below wz.heap.size wz w') := Lib.hid fun wz hz => by
          have h1 := HSL.out.below (HB2.out.trans (hz.mono s2))
          have h2 : q = (mskL ch).length := by rw [mskL_length]; exact HQ.out
          have key : ∀ t ∈ mskL ch, t < 65536 ∧ ∀ i, t.testBit i = true → i < n := fun t ht => by
            obtain ⟨l, hl, rfl⟩ := List.mem_map.1 ht
            exact (HCH.out l hl).bits n16
          rw [h2] at h1 ⊢
          exact containsNo_any n E xp xc ab sb s (mskL ch) (fun t ht => (key t ht).1) (fun t ht => (key t ht).2) _ hc wz (HCP.out.next hz) h1
        have HFIT : Hid ((∃ t ∈ mskL ch, ¬ TouchM E s t) ↔ ¬ ∀ t ∈ ch, TchE E t p) := Lib.hid (by
          constructor
          · rintro ⟨t, ht, h⟩ h2
            obtain ⟨l, hl, rfl⟩ := List.mem_map.1 ht
            have := h2 l hl
            unfold TchE at this
            rw [← hs] at this
            exact h this
          · intro h
            obtain ⟨t, ht⟩ := Classical.not_forall.1 h
            obtain ⟨h1, h2⟩ := Classical.not_imp.1 ht
            refine ⟨_, List.mem_map_of_mem h1, ?_⟩
            unfold TchE at h2
            rw [← hs] at h2
            exact h2)
        have HS := Lib.hid hs
        have HPK := Lib.hid hp
        have HPSS := Lib.hid hps
        have ca := HCP.out.boxA.cell
        have cs := HCP.out.boxS.cell
        have NEXT : Hid (pkF (TchE E) C r ch p = none → ∀ j (h : j < P.length), j < k + 1 → pkF (TchE E) C r ch P[j] = none) := Lib.hid (fun hn j h hj => by
          by_cases e : j < k
          · exact HNO.out j h e
          · obtain rfl : j = k := by omega
            rw [← HPK.out]; exact hn)
        clear hs hp hps hpm hsm hb2 hB2
        by_cases hfit : ∀ t ∈ ch, TchE E t p
        · have HDN := Lib.hid (dec_false (show ¬ ∃ t ∈ mskL ch, ¬ TouchM E s t from fun h => HFIT.out.1 h hfit))
          have HPF : Hid (pkF (TchE E) C r ch p = pickN (TchE E) C r (ch ++ [p])) := Lib.hid (by unfold pkF; rw [dec_true hfit, if_pos rfl])
          clear hfit
          go_upto_region 6 with fail
          rw [← hw2, ← hsb]
          clear hw2 hsb htc
          go_upto_region 7 with (go_at_call 139; refine (CNO.out _ (by first | exact Below.refl _ _ | exact below_dN (Below.refl _ _) _)).mono ?_; rintro e w3 ⟨he, hb3⟩; rw [HDN.out] at he; subst he; have HB3 := Lib.hid ((below_dN (Below.refl w2.heap.size w2) 0).trans hb3); clear hb3)
          have s3 := HB3.out.size
          have hB13 : Below w1.heap.size w1 w3 := HB2.out.trans (HB3.out.mono s2)
          have HB13 := Lib.hid hB13
          have ca3 := HB3.out.at' ca
          have cs3 := HB3.out.at' cs
          clear ca cs hB13
          have HMS : Hid ((mskL ch).map u32v ++ [Value.int .u32 (s : Int)] = (mskL (ch ++ [p])).map u32v) := Lib.hid (by rw [mskL_snoc, List.map_append, HS.out]; rfl)
          have HQ1 : Hid (q + 1 = (ch ++ [p]).length) := Lib.hid (by rw [List.length_append, ← HQ.out]; rfl)
          have CLO : Hid (∀ wz, Below w3.heap.size w3 wz → Calls Tryd.prog 142 #[.slice (some ⟨hb, 0, none⟩) q hc] wz fun e w' => ∃ (up : Option Addr) (uc : Nat), e = .returned (.slice up q uc) ∧ w'.ownsRow wz.heap.size 71 1 (.slice up q uc) q ((mskL ch).map u32v) ∧ Below wz.heap.size wz w') := Lib.hid fun wz hz => by
            refine (cloneSets_any _ q hc _ (one_vset _) (by rw [List.length_map, mskL_length, HQ.out]) wz (HSL.out.below (HB13.out.trans (hz.mono HB13.out.size)))).mono ?_
            rintro e w' ⟨u, rfl, h1, h2⟩
            obtain ⟨up, uc, rfl⟩ := owns_shapeBa h1
            exact ⟨up, uc, rfl, h1, h2⟩
          have REC : Hid (∀ wz b c, Below w3.heap.size w3 wz → Sl wz 71 (.slice (some ⟨b, 0, none⟩) (q + 1) c) (q + 1) ((mskL ch).map u32v ++ [Value.int .u32 (s : Int)]) → Calls Tryd.prog 94 #[.slice xp n xc, .slice (some ⟨qb, qo, none⟩) m cc, .slice (some ⟨b, 0, none⟩) (q + 1) c] wz fun e w' => ∃ u, e = .returned u ∧ ResP w' u (pickN (TchE E) C r (ch ++ [p])) ∧ Below wz.heap.size wz w') := Lib.hid fun wz b c hz hsl => by
            have hz1 := HB13.out.trans (hz.mono HB13.out.size)
            rw [HMS.out] at hsl
            exact IH.out (q + 1) (ch ++ [p]) HQ1.out HMR.out (fun x hx => by
              rcases List.mem_append.1 hx with h | h
              · exact HCH.out x h
              · rw [List.mem_singleton] at h; rw [h]; exact HPSS.out) b c wz (HNE.out.next hz1) (HT.out.keep hz1) (HCR.out.next hz1) hsl
          have hq9 : q < 1000000000 := by omega
          go_cut [9] (fun u wx => ResP wx u (pickN (TchE E) C r (ch ++ [p])) ∧ Below w3.heap.size w3 wx)
          case first =>
            refine wp_region_held_drew (S := (fun w' => w'.cell? ⟨ab, 0, none⟩ = some (.slice xp n xc) ∧ w'.cell? ⟨sb, 0, none⟩ = some (.int .u32 (s : Int)))) (by kernel_rfl) ?_ (fun hHeld => ?_)
            · exact ⟨ca3, cs3⟩
            refine wpAnyH_take (i := 0) (v := .slice xp n xc) rfl (by kernel_rfl) (by kernel_rfl) (by kernel_rfl) (fun _ _ _ h => h) (Or.inl ⟨by rfl, ?_⟩) (by assumption) ?_
            · intro wz hSw; (try dsimp only at hSw); go_simp; try rfl
            try simp only [Act.put, List.getElem_toArray, List.getElem_cons_succ, List.getElem_cons_zero, List.setIfInBounds_toArray, List.set_cons_zero, List.set_cons_succ]
            refine wpAnyH_take (i := 1) (v := .slice (some ⟨qb, qo, none⟩) m cc) rfl (by kernel_rfl) (by kernel_rfl) (by kernel_rfl) (fun _ _ _ h => h) (Or.inl ⟨by rfl, ?_⟩) (by assumption) ?_
            · intro wz hSw; (try dsimp only at hSw); go_simp; try rfl
            try simp only [Act.put, List.getElem_toArray, List.getElem_cons_succ, List.getElem_cons_zero, List.setIfInBounds_toArray, List.set_cons_zero, List.set_cons_succ]
            refine wpAnyH_take (i := 2) (v := .slice (some ⟨hb, 0, none⟩) q hc) rfl (by kernel_rfl) (by kernel_rfl) (by kernel_rfl) (fun _ _ _ h => h) (Or.inl ⟨by rfl, ?_⟩) (by assumption) ?_
            · intro wz hSw; (try dsimp only at hSw); go_simp; try rfl
            try simp only [Act.put, List.getElem_toArray, List.getElem_cons_succ, List.getElem_cons_zero, List.setIfInBounds_toArray, List.set_cons_zero, List.set_cons_succ]
            refine wpAnyH_take (i := 4) (v := .int .u32 (s : Int)) rfl (by kernel_rfl) (by kernel_rfl) (by kernel_rfl) (fun _ _ _ h => h) (Or.inl ⟨by rfl, ?_⟩) (by assumption) ?_
            · intro wz hSw; (try dsimp only at hSw); go_simp; try rfl
            try simp only [Act.put, List.getElem_toArray, List.getElem_cons_succ, List.getElem_cons_zero, List.setIfInBounds_toArray, List.set_cons_zero, List.set_cons_succ]
            refine wpAnyH_ready (rs := [3, 5]) (by kernel_rfl) (by simp) ?_
            refine AllReadyH.cons rfl (fun K hK => ?_) (AllReadyH.cons rfl (fun K hK => ?_) AllReadyH.nil)
            · go_simp
              go_at_call 142
              refine (CLO.out _ (below_dN (Below.refl _ _) _)).mono ?_
              rintro e w4 ⟨up, uc, rfl, ho4, hb4⟩
              have BW4 : Below w3.heap.size w3 w4 := (below_dN (Below.refl _ _) _).trans hb4
              refine hK.out _ _ ?_ (fun hHeld => ?_)
              · exact ⟨BW4.at' ca3, BW4.at' cs3⟩
              clear hK K
              try simp only [Act.put, List.getElem_toArray, List.getElem_cons_succ, List.getElem_cons_zero, List.setIfInBounds_toArray, List.set_cons_zero, List.set_cons_succ]
              refine wpAnyH_ready (rs := [5]) (by kernel_rfl) (by simp) ?_
              refine AllReadyH.cons rfl (fun K hK => ?_) AllReadyH.nil
              go_simp
              have BW5 : Below w3.heap.size w3 (w4.alloc (.cells #[.int .u32 (s : Int)] 71)) := BW4.trans ((below_alloc w4 _).mono BW4.size)
              refine hK.out _ _ ?_ (fun hHeld => ?_)
              · exact ⟨BW5.at' ca3, BW5.at' cs3⟩
              clear hK K
              try simp only [Act.put, List.getElem_toArray, List.getElem_cons_succ, List.getElem_cons_zero, List.setIfInBounds_toArray, List.set_cons_zero, List.set_cons_succ]
              refine wpAnyH_ready (rs := [6]) (by kernel_rfl) (by simp) ?_
              refine AllReadyH.cons rfl (fun K hK => ?_) AllReadyH.nil
              refine step_app1g ty_vsets (w := w4.alloc (.cells #[.int .u32 (s : Int)] 71)) (s := .tmp 32) (x := .tmp 34) (xv := .slice (some ⟨w4.heap.size, 0, none⟩) 1 1) (v := .slice up q uc) (n := q) (xs := (mskL ch).map u32v) (base := w3.heap.size) (el := .int .u32 (s : Int)) rfl rfl rfl (ho4.alloc _) rfl (sl_oneBb _ _ _) rfl hq9 BW5.size ?_
              intro b6 c6 w6 hown6 hg6
              have BW6 : Below w3.heap.size w3 w6 := below_grown BW5 (ho4.alloc _) hg6 (Nat.le_refl _) BW5.size
              have HS6 := Lib.hid (Sl.of_owns hown6 (by omega))
              clear hown6 hg6
              refine hK.out _ _ ?_ (fun hHeld => ?_)
              · exact ⟨BW6.at' ca3, BW6.at' cs3⟩
              clear hK K
              try simp only [Act.put, List.getElem_toArray, List.getElem_cons_succ, List.getElem_cons_zero, List.setIfInBounds_toArray, List.set_cons_zero, List.set_cons_succ]
              refine wpAnyH_ready (rs := [7]) (by kernel_rfl) (by simp) ?_
              refine AllReadyH.cons rfl (fun K hK => ?_) AllReadyH.nil
              go_simp
              go_at_call 94
              refine (REC.out _ _ _ BW6 HS6.out).mono ?_
              rintro e w7 ⟨u7, rfl, hr7, hb7⟩
              have BW7 : Below w3.heap.size w3 w7 := BW6.trans (hb7.mono BW6.size)
              refine hK.out _ _ ?_ (fun hHeld => ?_)
              · exact ⟨BW7.at' ca3, BW7.at' cs3⟩
              clear hK K
              try simp only [Act.put, List.getElem_toArray, List.getElem_cons_succ, List.getElem_cons_zero, List.setIfInBounds_toArray, List.set_cons_zero, List.set_cons_succ]
              refine wpAnyH_ready (rs := [8]) (by kernel_rfl) (by simp) ?_
              refine AllReadyH.cons rfl (fun K hK => ?_) AllReadyH.nil
              go_simp
              refine hK.out _ _ ?_ (fun hHeld => ?_)
              · exact ⟨BW7.at' ca3, BW7.at' cs3⟩
              clear hK K
              try simp only [Act.put, List.getElem_toArray, List.getElem_cons_succ, List.getElem_cons_zero, List.setIfInBounds_toArray, List.set_cons_zero, List.set_cons_succ]
              refine wpAnyH_done (by kernel_rfl) ?_ _
              go_wp2
              go_meet
              exact ⟨hr7, BW7⟩
            · go_simp
              have BW4 : Below w3.heap.size w3 (w3.drew.alloc (.cells #[.int .u32 (s : Int)] 71)) := Below.trans (show Below w3.heap.size w3 w3.drew from below_dN (Below.refl _ _) 1) (below_alloc w3.drew _)
              refine hK.out _ _ ?_ (fun hHeld => ?_)
              · exact ⟨BW4.at' ca3, BW4.at' cs3⟩
              clear hK K
              try simp only [Act.put, List.getElem_toArray, List.getElem_cons_succ, List.getElem_cons_zero, List.setIfInBounds_toArray, List.set_cons_zero, List.set_cons_succ]
              refine wpAnyH_ready (rs := [3]) (by kernel_rfl) (by simp) ?_
              refine AllReadyH.cons rfl (fun K hK => ?_) AllReadyH.nil
              go_simp
              go_at_call 142
              refine (CLO.out _ BW4).mono ?_
              rintro e w4 ⟨up, uc, rfl, ho4, hb4⟩
              have BW5 : Below w3.heap.size w3 w4 := BW4.trans (hb4.mono BW4.size)
              refine hK.out _ _ ?_ (fun hHeld => ?_)
              · exact ⟨BW5.at' ca3, BW5.at' cs3⟩
              clear hK K
              try simp only [Act.put, List.getElem_toArray, List.getElem_cons_succ, List.getElem_cons_zero, List.setIfInBounds_toArray, List.set_cons_zero, List.set_cons_succ]
              refine wpAnyH_ready (rs := [6]) (by kernel_rfl) (by simp) ?_
              refine AllReadyH.cons rfl (fun K hK => ?_) AllReadyH.nil
              refine step_app1g ty_vsets (w := w4) (s := .tmp 32) (x := .tmp 34) (xv := .slice (some ⟨w3.heap.size, 0, none⟩) 1 1) (v := .slice up q uc) (n := q) (xs := (mskL ch).map u32v) (base := w3.heap.size) (el := .int .u32 (s : Int)) rfl rfl rfl (ownsRow_base ho4 BW4.size) rfl ((sl_oneBb w3.drew _ _).below hb4) rfl hq9 BW5.size ?_
              intro b6 c6 w6 hown6 hg6
              have BW6 : Below w3.heap.size w3 w6 := below_grown BW5 (ownsRow_base ho4 BW4.size) hg6 (Nat.le_refl _) BW5.size
              have HS6 := Lib.hid (Sl.of_owns hown6 (by omega))
              clear hown6 hg6
              refine hK.out _ _ ?_ (fun hHeld => ?_)
              · exact ⟨BW6.at' ca3, BW6.at' cs3⟩
              clear hK K
              try simp only [Act.put, List.getElem_toArray, List.getElem_cons_succ, List.getElem_cons_zero, List.setIfInBounds_toArray, List.set_cons_zero, List.set_cons_succ]
              refine wpAnyH_ready (rs := [7]) (by kernel_rfl) (by simp) ?_
              refine AllReadyH.cons rfl (fun K hK => ?_) AllReadyH.nil
              go_simp
              go_at_call 94
              refine (REC.out _ _ _ BW6 HS6.out).mono ?_
              rintro e w7 ⟨u7, rfl, hr7, hb7⟩
              have BW7 : Below w3.heap.size w3 w7 := BW6.trans (hb7.mono BW6.size)
              refine hK.out _ _ ?_ (fun hHeld => ?_)
              · exact ⟨BW7.at' ca3, BW7.at' cs3⟩
              clear hK K
              try simp only [Act.put, List.getElem_toArray, List.getElem_cons_succ, List.getElem_cons_zero, List.setIfInBounds_toArray, List.set_cons_zero, List.set_cons_succ]
              refine wpAnyH_ready (rs := [8]) (by kernel_rfl) (by simp) ?_
              refine AllReadyH.cons rfl (fun K hK => ?_) AllReadyH.nil
              go_simp
              refine hK.out _ _ ?_ (fun hHeld => ?_)
              · exact ⟨BW7.at' ca3, BW7.at' cs3⟩
              clear hK K
              try simp only [Act.put, List.getElem_toArray, List.getElem_cons_succ, List.getElem_cons_zero, List.setIfInBounds_toArray, List.set_cons_zero, List.set_cons_succ]
              refine wpAnyH_done (by kernel_rfl) ?_ _
              go_wp2
              go_meet
              exact ⟨hr7, BW7⟩
          case rest =>
            obtain ⟨hres, hbx⟩ := hcut
            have HBX : Hid (Below w1.heap.size w1 wc) := Lib.hid (HB13.out.trans (hbx.mono HB13.out.size))
            clear hbx ca3 cs3
            obtain ⟨pk, hpk⟩ : ∃ pk, pk = pickN (TchE E) C r (ch ++ [p]) := ⟨_, rfl⟩
            rw [← hpk] at hres HPF
            clear hpk
            cases pk with
            | none =>
              change _ = Value.slice none 0 0 at hres
              subst hres
              have hnl : ∀ w, Sem.run Tryd.prog (binOp BinOp.neq 66 (.slice none 0 0) (.slice none 0 0)) w = .ok (.bool false) w := fun w => rfl
              go_wp2
              go_roundw
              case rel => exact ⟨k + 1, by omega, by go_num, Lib.hid (NEXT.out HPF.out), HBX⟩
              case measure => simp [intOf]; omega
            | some L =>
              obtain ⟨b, c, rfl, hsl⟩ := hres
              have HSLL := Lib.hid hsl
              have hnl : ∀ w, Sem.run Tryd.prog (binOp BinOp.neq 66 (.slice (some ⟨b, 0, none⟩) L.length c) (.slice none 0 0)) w = .ok (.bool true) w := fun w => rfl
              clear hsl
              go_wp2
              go_ret
              refine ⟨_, rfl, ?_, HB1.out.trans (HBX.out.mono s1)⟩
              have hq := HQ.out
              subst hq
              have hPP := HP.out
              subst hPP
              have hk2 : k < (C.getD ch.length []).length := by rw [← HPL.out]; exact hlt
              rw [pick_some (k := k) hk2 HNO.out (by have := HPF.out; rw [HPK.out] at this; exact this)]
              exact ⟨b, c, rfl, HSLL.out⟩
        · have HDN := Lib.hid (dec_true (HFIT.out.2 hfit))
          have HPF : Hid (pkF (TchE E) C r ch p = none) := Lib.hid (by unfold pkF; rw [dec_false hfit]; rfl)
          clear hfit
          go_upto_region 6 with fail
          rw [← hw2, ← hsb]
          clear hw2 hsb htc
          go_wp2_with (go_at_call 139; refine (CNO.out _ (by first | exact Below.refl _ _ | exact below_dN (Below.refl _ _) _)).mono ?_; rintro e w3 ⟨he, hb3⟩; rw [HDN.out] at he; subst he; have HB3 := Lib.hid ((below_dN (Below.refl w2.heap.size w2) 0).trans hb3); clear hb3)
          go_roundw
          case rel => exact ⟨k + 1, by omega, by go_num, Lib.hid (NEXT.out HPF.out), Lib.hid (HB2.out.trans (HB3.out.mono s2))⟩
          case measure => simp [intOf]; omega
      · obtain rfl : k = pl := by omega
        go_wp2
        go_ret
        refine ⟨_, rfl, ?_, HB1.out.trans (HB.out.mono s1)⟩
        have hq := HQ.out
        subst hq
        have hPP := HP.out
        subst hPP
        rw [pick_none fun j hj => HNO.out j hj (by rw [HPL.out]; exact hj)]
        rfl

end Go.Proofs.YtiooindlpinjhaaDoor
