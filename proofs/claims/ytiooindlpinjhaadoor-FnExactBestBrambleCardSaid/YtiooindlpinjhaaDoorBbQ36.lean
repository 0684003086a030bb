/- Walk: the reference's choice of parts that touch (printed by wip/mkBd.py). -/
import Derived.Test.YtiooindlpinjhaaDoorBbQ18
import Derived.Test.YtiooindlpinjhaaDoorBbQ33
import Derived.Test.YtiooindlpinjhaaDoorBbQ35
import Derived.Test.YtiooindlpinjhaaDoorBbQ8
import Derived.Test.YtiooindlpinjhaaDoorBbQ25
import Derived.Deep.RegionHeld3
import Derived.Deep.DeepCutAuto
namespace Go.Proofs.YtiooindlpinjhaaDoor
open Go.RowKit

/-- append of a row as one operation of a drawn region. -/
theorem step_appN {P : Program} {T E : TypeId} {z : Value} {bytes : Nat} (S : SlTy P T E z 1 bytes) {w : World} {ops : Array Oper} {o : Oper} {a : Act} {K : Act → World → Prop} {Q : Exit → Act → World → Prop} {F : Prop}
    (hgd : o.guard = none) {s x : Operand} (ho : o.op = .call { callee := .builtin .append, args := #[s, x], argTypes := #[T, T] })
    {base : Nat} {v xv : Value} {n m : Nat} {xs news : List Value} (hs : a.eval s = v) (hown : w.ownsRow base E 1 v n xs)
    (hx : a.eval x = xv) (hu : Sl w E xv m news) (hl : news.length = m) (h1 : ∀ x ∈ news, x.oneCell' = true)
    (hnm : n + m ≤ 1000000000) (hbase : base ≤ w.heap.size)
    (h : ∀ v' w', w'.ownsRow base E 1 v' (n + m) (xs ++ news) → w.grownBy w' v.ownBlock → K (a.put o.dst v') w') :
    if Region.wanted o (yielded ops a.tmps) = true then Oper.wp P o a w K Q else F := by
  have hw : Region.wanted o (yielded ops a.tmps) = true := by simp [Region.wanted, hgd]
  rw [if_pos hw]
  obtain ⟨v', w', hr, h2, h3, h4⟩ := run_app S w o.type base v n xs hown _ m news hu (by omega) h1 hnm hbase
  unfold Oper.wp execOp
  simp only [ho, resolve, invoke, builtin, Sem.run_bind, Sem.run_pure, Result.andThen_ok, List.map_toArray, List.map_cons, List.map_nil, hs, hx, hr]
  exact h v' w' h2 h3
theorem step_app1h {P : Program} {T E : TypeId} {z : Value} {bytes : Nat} (S : SlTy P T E z 1 bytes) {w : World} {ops : Array Oper} {o : Oper} {a : Act} {K : Act → World → Prop} {Q : Exit → Act → World → Prop} {F : Prop}
    (hgd : o.guard = none) {s x : Operand} (ho : o.op = .call { callee := .builtin .append, args := #[s, x], argTypes := #[T, T] })
    {base : Nat} {v xv : Value} {n : Nat} {xs : List Value} {el : Value} (hs : a.eval s = v) (hown : w.ownsRow base E 1 v n xs)
    (hx : a.eval x = xv) (hu : Sl w E xv 1 [el]) (h1 : el.oneCell' = true)
    (hnm : n < 1000000000) (hbase : base ≤ w.heap.size)
    (h : ∀ b c w', w'.ownsRow base E 1 (.slice (some ⟨b, 0, none⟩) (n + 1) c) (n + 1) (xs ++ [el]) → w.grownBy w' v.ownBlock → K (a.put o.dst (.slice (some ⟨b, 0, none⟩) (n + 1) c)) w') :
    if Region.wanted o (yielded ops a.tmps) = true then Oper.wp P o a w K Q else F :=
  step_appN S hgd ho hs hown hx hu rfl (by simpa using h1) (by omega) hbase fun v' w' h2 h3 => by
    rcases id h2.2 with ⟨_, h0⟩ | ⟨g, cap, cur, rfl, _⟩
    · omega
    · exact h g cap w' h2 h3
theorem sl_oneAt {w : World} {E : TypeId} {b : Nat} {el : Value} (h : w.heap[b]? = some (.cells #[el] E (0, 0))) : Sl w E (.slice (some ⟨b, 0, none⟩) 1 1) 1 [el] := by
  refine ⟨_, 1, rfl, (fun e => by cases e), Nat.le_refl _, by omega, Or.inr ⟨b, 0, #[el], (0, 0), rfl, h, fun j u hu => ?_⟩⟩
  cases j with
  | zero => simpa using hu
  | succ j => simp at hu

/-- Rows of rows of numbers. -/
def CG (w : World) (v : Value) (C : List (List (List Nat))) : Prop :=
  ∃ vals, vals.length = C.length ∧ Sl w 22 v C.length vals ∧ ∀ j, j < C.length → Rws w 26 2 (vals.getD j undef) ((C.getD j []).map natInts)
theorem CG.next {w w' : World} {v : Value} {C : List (List (List Nat))} (h : CG w v C) (hb : Below w.heap.size w w') : CG w' v C := by
  obtain ⟨vals, h1, h2, h3⟩ := h
  exact ⟨vals, h1, h2.below hb, fun j hj => (h3 j hj).below hb⟩
theorem CG.get {w : World} {p : Option Addr} {m c : Nat} {C : List (List (List Nat))} (h : CG w (.slice p m c) C) {q : Nat} (hq : q < C.length) :
    ∃ (b o : Nat) (rp : Option Addr) (rc : Nat), p = some ⟨b, o, none⟩ ∧ w.cell? ⟨b, o + q, none⟩ = some (.slice rp (C.getD q []).length rc) ∧ Rws w 26 2 (.slice rp (C.getD q []).length rc) ((C.getD q []).map natInts) := by
  obtain ⟨vals, h1, h2, h3⟩ := h
  obtain ⟨p', c', he, _, _, _, hat⟩ := h2
  simp only [Value.slice.injEq] at he
  obtain ⟨rfl, _, rfl⟩ := he
  obtain ⟨b, o, e1, e2⟩ := hat.cells (k := q) (by omega)
  have h4 := h3 q hq
  obtain ⟨rp, rc, e3⟩ : ∃ rp rc, vals.getD q undef = .slice rp (C.getD q []).length rc := by
    obtain ⟨rp, rc, e, _⟩ := h4.shape
    rw [List.length_map] at e
    exact ⟨rp, rc, e⟩
  rw [e3] at h4
  refine ⟨b, o, rp, rc, e1, ?_, h4⟩
  rw [e2 q (vals.getD q undef) (by rw [List.getD_eq_getElem?_getD, List.getElem?_eq_getElem (by omega)]; rfl), e3]

/-- Whether the second touches the first. -/
def TchG (E : Nat → Nat → Bool) (t p : List Nat) : Prop := TouchM E (mask (natInts p)) (mask (natInts t))
/-- One part of a choice. -/
noncomputable def pkG (Tch : List Nat → List Nat → Prop) (C : List (List (List Nat))) (r : Nat) (ch : List (List Nat)) (p : List Nat) : Option (List (List Nat)) := if dec (∀ t ∈ ch, Tch t p) = true then pickN Tch C r (ch ++ [p]) else none
theorem pickG_none {Tch : List Nat → List Nat → Prop} {C : List (List (List Nat))} {r : Nat} {ch : List (List Nat)} (h : ∀ j (hj : j < (C.getD ch.length []).length), pkG Tch C r ch (C.getD ch.length [])[j] = none) : pickN Tch C (r + 1) ch = none := by
  show (C.getD ch.length []).findSome? (pkG Tch C r ch) = none
  rw [List.findSome?_eq_none_iff]
  intro p hp
  obtain ⟨j, hj, rfl⟩ := List.getElem_of_mem hp
  exact h j hj
theorem pickG_some {Tch : List Nat → List Nat → Prop} {C : List (List (List Nat))} {r : Nat} {ch L : List (List Nat)} {k : Nat} (hk : k < (C.getD ch.length []).length) (h : ∀ j (hj : j < (C.getD ch.length []).length), j < k → pkG Tch C r ch (C.getD ch.length [])[j] = none) (hs : pkG Tch C r ch (C.getD ch.length [])[k] = some L) : pickN Tch C (r + 1) ch = some L := by
  show (C.getD ch.length []).findSome? (pkG Tch C r ch) = some L
  rw [List.findSome?_eq_some_iff]
  refine ⟨(C.getD ch.length []).take k, (C.getD ch.length [])[k], (C.getD ch.length []).drop (k + 1), by rw [← List.drop_eq_getElem_cons hk, List.take_append_drop], hs, fun p hp => ?_⟩
  obtain ⟨j, hj, rfl⟩ := List.getElem_of_mem hp
  rw [List.length_take] at hj
  rw [List.getElem_take]
  exact h j (by omega) (by omega)
def SetG (n : Nat) (p : List Nat) : Prop := p.Pairwise (· < ·) ∧ ∀ x ∈ p, x < n
theorem SetG.setIn {n : Nat} {p : List Nat} (h : SetG n p) : SetIn n (natInts p) :=
  ⟨fun x hx => by
    obtain ⟨y, hy, rfl⟩ := List.mem_map.1 hx
    have := h.2 y hy
    omega, by
    unfold natInts
    rw [List.pairwise_map]
    exact h.1.imp (by intros; omega)⟩
theorem SetG.len {n : Nat} {p : List Nat} (h : SetG n p) : p.length ≤ n := by
  have e : p = (List.range n).filter fun x => decide (x ∈ p) := rising_ext _ _ h.1 (List.Pairwise.filter _ List.pairwise_lt_range) fun x => by
    simp only [List.mem_filter, List.mem_range, decide_eq_true_eq]
    exact ⟨fun hx => ⟨h.2 x hx, hx⟩, fun hx => hx.2⟩
  have h2 := List.length_filter_le (fun x => decide (x ∈ p)) (List.range n)
  rw [← e, List.length_range] at h2
  exact h2

set_option maxRecDepth 100000 in
set_option maxHeartbeats 8000000 in
theorem l11Pick_any (g : List (List Int)) (hok : GOk g) (ga : Option Addr) (gc : Nat) (C : List (List (List Nat))) (cp : Option Addr) (cc m : Nat) (hm : m = C.length) (hC : ∀ j, j < C.length → ∀ p ∈ C.getD j [], SetG g.length p) (hml : m ≤ 1000000) :
    ∀ (r q : Nat) (ch : List (List Nat)), q = ch.length → q + r = m → (∀ p ∈ ch, SetG g.length p) → ∀ (hp : Option Addr) (hc : Nat) (w : World), Gr w (.agg #[.slice ga g.length gc]) g → CG w (.slice cp m cc) C → Rws w 26 2 (.slice hp q hc) (ch.map natInts) →
    Calls Tryd.prog 85 #[.agg #[.slice ga g.length gc], .slice cp m cc, .slice hp q hc] w fun e w' => ∃ (up : Option Addr) (ul uc : Nat), e = .returned (.slice up ul uc) ∧ ul = ((pickN (TchG (ofG g)) C r ch).getD []).length ∧ Rws w' 26 2 (.slice up ul uc) (((pickN (TchG (ofG g)) C r ch).getD []).map natInts) ∧ Below w.heap.size w w' := by
  have n16 := hok.le
  intro r
  have HM := Lib.hid hm
  have HCS := Lib.hid hC
  have HOK := Lib.hid hok
  clear hm hC hok
  induction r with
  | zero =>
    rintro q ch hq hqm _ hp hc w _ _ hsl
    obtain rfl : q = m := by omega
    have HQ := Lib.hid hq
    have HSL := Lib.hid hsl
    clear hq hsl hqm
    go_enter Tryd.func85, Tryd.ntmps85
    go_wp2
    go_ret
    exact ⟨hp, q, hc, rfl, HQ.out, HSL.out.below (below_alloc _ _), below_alloc _ _⟩
  | succ r ih =>
    rintro q ch hq hqm hch hp hc w hg hcr hsl
    have hql : q < m := by omega
    have hqi : (q : Int) < (m : Int) := by omega
    have hneq : ((q : Int) == (m : Int)) = false := by simp; omega
    obtain ⟨w1, hw1⟩ : ∃ w1, w1 = w.alloc (.cells #[.slice ga g.length gc] 28) := ⟨_, rfl⟩
    have hb1 : Below w.heap.size w w1 := by rw [hw1]; exact below_alloc _ _
    have HBA : Hid (Box w1 w.heap.size 28 (.slice ga g.length gc)) := Lib.hid (by rw [hw1]; exact Box.new _ _ _)
    obtain ⟨ab, hab⟩ : ∃ ab, ab = w.heap.size := ⟨_, rfl⟩
    rw [← hab] at HBA
    have HB1 := Lib.hid hb1
    have s1 := hb1.size
    have HG := Lib.hid (hg.below hb1)
    have HCR := Lib.hid (hcr.next hb1)
    have HSL := Lib.hid (hsl.below hb1)
    have HQ := Lib.hid hq
    have HCH := Lib.hid hch
    have HMR : Hid (q + 1 + r = m) := Lib.hid (by omega)
    have IH := Lib.hid ih
    obtain ⟨P, hP⟩ : ∃ P, P = C.getD q [] := ⟨_, rfl⟩
    obtain ⟨qb, qo, rp, rc, rfl, hcq, hrow⟩ := HCR.out.get (q := q) (by rw [← HM.out]; exact hql)
    rw [← hP] at hcq hrow
    have HROW := Lib.hid hrow
    have HP := Lib.hid hP
    have HPS : Hid (∀ p ∈ P, SetG g.length p) := Lib.hid (by rw [hP]; exact HCS.out q (by rw [← HM.out]; exact hql))
    obtain ⟨pl, hpl⟩ : ∃ pl, pl = P.length := ⟨_, rfl⟩
    have hpl9 : pl ≤ 1000000000 := by
      obtain ⟨_, _, _, _, _, h⟩ := hrow.shape
      rw [List.length_map] at h
      rw [hpl]; exact h
    rw [← hpl] at hcq
    have HPL := Lib.hid hpl
    have HCQ := Lib.hid hcq
    clear hg hcr hsl hq hch hrow hP hb1 ih hqm hpl
    go_enter Tryd.func85, Tryd.ntmps85
    go_upto_region 1 with fail
    rw [← hw1, ← hab]
    clear hw1 hab
    go_wp2
    go_loopw [8] (fun i wr => ∃ k : Nat, k ≤ pl ∧ i = .int .i64 k ∧ Hid (∀ j (h : j < P.length), j < k → pkG (TchG (ofG g)) C r ch P[j] = none) ∧ Hid (Below w1.heap.size w1 wr)) (fun i _ => pl - (intOf i).toNat)
    case atStart => exact ⟨0, Nat.zero_le _, rfl, Lib.hid (fun j _ hj => absurd hj (Nat.not_lt_zero _)), Lib.hid (by first | exact Below.refl _ _ | exact below_dN (Below.refl _ _) _)⟩
    case round =>
      clear hcq
      obtain ⟨k, hk, rfl, HNO, HB⟩ := hrel
      have hcq := HB.out.at' HCQ.out
      by_cases hlt : k < pl
      · have hlP : k < P.length := by rw [← HPL.out]; exact hlt
        obtain ⟨p, hpe⟩ : ∃ p, p = P[k] := ⟨_, rfl⟩
        have hpm : p ∈ P := by rw [hpe]; exact List.getElem_mem hlP
        have HPSS := Lib.hid (HPS.out p hpm)
        obtain ⟨pc, hpc⟩ : ∃ pc, pc = p.length := ⟨_, rfl⟩
        obtain ⟨tb, t0, pp, pq, rfl, htc, HNP⟩ : ∃ b o pp pq, rp = some ⟨b, o, none⟩ ∧ wr.cell? ⟨b, o + k, none⟩ = some (.slice pp pc pq) ∧ Hid (Nums w1 2 .i64 (.slice pp pc pq) (natInts p)) := by
          obtain ⟨b, o, pp, pq, e1, e2, e3⟩ := HROW.out.get (k := k) (by rw [List.length_map]; exact hlP)
          have e4 : (P.map natInts).getD k [] = natInts p := by rw [List.getD_eq_getElem?_getD, List.getElem?_eq_getElem (by rw [List.length_map]; exact hlP)]; simp [hpe]
          rw [e4, natInts_length, ← hpc] at e2 e3
          exact ⟨b, o, pp, pq, e1, HB.out.at' e2, Lib.hid e3⟩
        have HPK := Lib.hid hpe
        have NEXT : Hid (pkG (TchG (ofG g)) C r ch p = none → ∀ j (h : j < P.length), j < k + 1 → pkG (TchG (ofG g)) C r ch P[j] = none) := Lib.hid (fun hn j h hj => by
          by_cases e : j < k
          · exact HNO.out j h e
          · obtain rfl : j = k := by omega
            rw [← HPK.out]; exact hn)
        clear hpe hpm hpc
        go_wp2
        go_loopw [10, 11] (fun fv jv wr => ∃ (j : Nat) (b : Bool), j ≤ q ∧ jv = .int .i64 j ∧ fv = .bool b ∧ Hid (b = true → ∀ i (h : i < ch.length), i < j → TchG (ofG g) ch[i] p) ∧ Hid (b = false → ¬ ∀ t ∈ ch, TchG (ofG g) t p) ∧ Hid (Below w1.heap.size w1 wr)) (fun _ jv _ => q - (intOf jv).toNat)
        case atStart => exact ⟨0, true, Nat.zero_le _, rfl, rfl, Lib.hid (fun _ i _ hi => absurd hi (Nat.not_lt_zero _)), Lib.hid (fun h => by cases h), by first | exact HB | exact Lib.hid (HB.out.trans (below_dN (Below.refl _ _) _))⟩
        case round =>
          clear HB hcq htc
          obtain ⟨j, b, hj, rfl, rfl, HYES, HNOT, HB⟩ := hrel
          have FAIL : Hid (b = false → pkG (TchG (ofG g)) C r ch p = none) := Lib.hid (fun hb => by unfold pkG; rw [dec_false (HNOT.out hb)]; rfl)
          cases b with
          | false =>
            have HPF := Lib.hid (FAIL.out rfl)
            by_cases hjq : j < q
            · have hji : (j : Int) < (q : Int) := by omega
              go_wp2
              go_roundw
              case rel => exact ⟨k + 1, by omega, by go_num, Lib.hid (NEXT.out HPF.out), HB⟩
              case measure => simp [intOf]; omega
            · have hji : ¬ (j : Int) < (q : Int) := by omega
              go_wp2
              go_roundw
              case rel => exact ⟨k + 1, by omega, by go_num, Lib.hid (NEXT.out HPF.out), HB⟩
              case measure => simp [intOf]; omega
          | true =>
            by_cases hjq : j < q
            · have hji : (j : Int) < (q : Int) := by omega
              have hjc : j < ch.length := by rw [← HQ.out]; exact hjq
              obtain ⟨t, hte⟩ : ∃ t, t = ch[j] := ⟨_, rfl⟩
              have htm : t ∈ ch := by rw [hte]; exact List.getElem_mem hjc
              have HTS := Lib.hid (HCH.out t htm)
              obtain ⟨tl, htl⟩ : ∃ tl, tl = t.length := ⟨_, rfl⟩
              obtain ⟨hb, ho, tp, tq, rfl, hhc, HNT⟩ : ∃ b o pp pq, hp = some ⟨b, o, none⟩ ∧ w1.cell? ⟨b, o + j, none⟩ = some (.slice pp tl pq) ∧ Hid (Nums w1 2 .i64 (.slice pp tl pq) (natInts t)) := by
                obtain ⟨b, o, pp, pq, e1, e2, e3⟩ := HSL.out.get (k := j) (by rw [List.length_map]; exact hjc)
                have e4 : (ch.map natInts).getD j [] = natInts t := by rw [List.getD_eq_getElem?_getD, List.getElem?_eq_getElem (by rw [List.length_map]; exact hjc)]; simp [hte]
                rw [e4, natInts_length, ← htl] at e2 e3
                exact ⟨b, o, pp, pq, e1, e2, Lib.hid e3⟩
              have hcc := HB.out.at' hhc
              have hcg := (HBA.out.keep HB.out).cell
              have HTM : Hid (TouchP g (natInts t) (natInts p) ↔ TchG (ofG g) t p) := Lib.hid (touch_mask HOK.out HTS.out.setIn HPSS.out.setIn).symm
              have TCH : Hid (∀ wz, Below w1.heap.size w1 wz → Calls Tryd.prog 135 #[.agg #[.slice ga g.length gc], .slice tp tl tq, .slice pp pc pq] wz fun e w' => e = .returned (.bool (dec (TouchP g (natInts t) (natInts p)))) ∧ Below wz.heap.size wz w') := Lib.hid fun wz hz =>
                l11Touch_any _ _ _ g t p (Nat.le_trans HPSS.out.len n16) HPSS.out.2 wz (HG.out.below hz) (HNT.out.below hz) (HNP.out.below hz)
              have HJT := Lib.hid hte
              have HTMM := Lib.hid htm
              clear hte htm htl hhc
              by_cases htch : TchG (ofG g) t p
              · have HD := Lib.hid (dec_true (HTM.out.2 htch))
                have HTT := Lib.hid htch
                clear htch
                go_upto_region 12 with fail
                go_region_held3 (fun w' => w'.cell? ⟨ab, 0, none⟩ = some (.slice ga g.length gc) ∧ w'.cell? ⟨hb, ho + j, none⟩ = some (.slice tp tl tq))
                  (first | exact ⟨hcg, hcc⟩ | go_keep | exact ⟨BW8.at' hcg, BW8.at' hcc⟩)
                  (first | (go_at_call 135; refine (TCH.out _ (HB.out.trans (below_dN (Below.refl _ _) 1))).mono ?_; rintro e w8 ⟨he, hb8⟩; rw [HD.out] at he; subst he; have BW8 : Below wr.heap.size wr w8 := (below_dN (Below.refl _ _) 1).trans hb8; clear hb8))
                all_goals go_wp2
                all_goals go_roundw
                all_goals first
                  | exact ⟨j + 1, true, by omega, by go_num, rfl, Lib.hid (fun _ i h hi => by
                      by_cases e : i < j
                      · exact HYES.out (by first | rfl | trivial) i h e
                      · obtain rfl : i = j := by omega
                        rw [← HJT.out]; exact HTT.out), Lib.hid (fun h => by cases h), Lib.hid (HB.out.trans (BW8.mono HB.out.size))⟩
                  | (simp [intOf]; omega)
              · have HD := Lib.hid (dec_false (fun h => htch (HTM.out.1 h)))
                have HTT := Lib.hid htch
                clear htch
                go_upto_region 12 with fail
                go_region_held3 (fun w' => w'.cell? ⟨ab, 0, none⟩ = some (.slice ga g.length gc) ∧ w'.cell? ⟨hb, ho + j, none⟩ = some (.slice tp tl tq))
                  (first | exact ⟨hcg, hcc⟩ | go_keep | exact ⟨BW8.at' hcg, BW8.at' hcc⟩)
                  (first | (go_at_call 135; refine (TCH.out _ (HB.out.trans (below_dN (Below.refl _ _) 1))).mono ?_; rintro e w8 ⟨he, hb8⟩; rw [HD.out] at he; subst he; have BW8 : Below wr.heap.size wr w8 := (below_dN (Below.refl _ _) 1).trans hb8; clear hb8))
                all_goals go_wp2
                all_goals go_roundw
                all_goals first
                  | exact ⟨j + 1, false, by omega, by go_num, rfl, Lib.hid (fun h => by cases h), Lib.hid (fun _ h => HTT.out (h t HTMM.out)), Lib.hid (HB.out.trans (BW8.mono HB.out.size))⟩
                  | (simp [intOf]; omega)
            · obtain rfl : j = q := by omega
              have hfit : ∀ t ∈ ch, TchG (ofG g) t p := fun t ht => by
                obtain ⟨i, hi, rfl⟩ := List.getElem_of_mem ht
                exact HYES.out (by first | rfl | trivial) i hi (by rw [HQ.out]; exact hi)
              have HPF : Hid (pkG (TchG (ofG g)) C r ch p = pickN (TchG (ofG g)) C r (ch ++ [p])) := Lib.hid (by unfold pkG; rw [dec_true hfit, if_pos rfl])
              obtain ⟨w3, hw3⟩ : ∃ w3, w3 = wr := ⟨_, rfl⟩
              rw [← hw3] at HB ⊢
              clear hfit hw3
              have hcg := (HBA.out.keep HB.out).cell
              have HSL3 := HSL.out.below HB.out
              obtain ⟨vals, hvl, hsl3, hvr⟩ := HSL3
              rw [List.length_map] at hvl hsl3 hvr
              have HVL := Lib.hid hvl
              have HS3 : Hid (Sl w3 26 (.slice hp j hc) j vals) := Lib.hid (by have := HQ.out; rw [← this] at hsl3; exact hsl3)
              have HVR := Lib.hid hvr
              have HV1 : Hid (∀ x ∈ vals, x.oneCell' = true) := Lib.hid (fun x hx => by
                obtain ⟨i, hi, rfl⟩ := List.getElem_of_mem hx
                have h1 := hvr i (by omega)
                rw [List.getD_eq_getElem?_getD, List.getElem?_eq_getElem hi] at h1
                obtain ⟨xp, xc, e, _⟩ := h1.shape
                change vals[i] = _ at e
                rw [e]; rfl)
              have HVL2 : Hid (vals.length = j) := Lib.hid (by rw [hvl, ← HQ.out])
              have REC : Hid (∀ wz b c, Below w3.heap.size w3 wz → wz.ownsRow w3.heap.size 26 1 (.slice (some ⟨b, 0, none⟩) (j + 1) c) (j + 1) (vals ++ [.slice pp pc pq]) → Calls Tryd.prog 85 #[.agg #[.slice ga g.length gc], .slice (some ⟨qb, qo, none⟩) m cc, .slice (some ⟨b, 0, none⟩) (j + 1) c] wz fun e w' => ∃ (up : Option Addr) (ul uc : Nat), e = .returned (.slice up ul uc) ∧ ul = ((pickN (TchG (ofG g)) C r (ch ++ [p])).getD []).length ∧ Rws w' 26 2 (.slice up ul uc) (((pickN (TchG (ofG g)) C r (ch ++ [p])).getD []).map natInts) ∧ Below wz.heap.size wz w') := Lib.hid fun wz b c hz ho => by
                have hz1 := HB.out.trans (hz.mono HB.out.size)
                have hjl : j + 1 = (ch ++ [p]).length := by rw [List.length_append, ← HQ.out]; rfl
                refine IH.out (j + 1) (ch ++ [p]) hjl HMR.out (fun x hx => ?_) _ c wz (HG.out.below hz1) (HCR.out.next hz1) ?_
                · rcases List.mem_append.1 hx with h | h
                  · exact HCH.out x h
                  · rw [List.mem_singleton] at h; rw [h]; exact HPSS.out
                · refine Rws.of_owned (vals ++ [.slice pp pc pq]) (by rw [List.length_append, List.length_map, ← hjl, HVL2.out]; rfl) (by rw [List.length_map, ← hjl]; exact ho) (by rw [List.length_map, ← hjl]; omega) (fun i hi => ?_)
                  rw [List.length_map, ← hjl] at hi
                  by_cases e : i < j
                  · have e3 : row ((ch ++ [p]).map natInts) i = (ch.map natInts).getD i [] := by
                      show ((ch ++ [p]).map natInts).getD i [] = _
                      rw [List.map_append, getD_append_left _ _ _ _ (by rw [List.length_map, ← HQ.out]; exact e)]
                    rw [getD_append_left _ _ _ _ (by rw [HVL2.out]; exact e), e3]
                    exact (HVR.out i (by rw [← HQ.out]; exact e)).below hz
                  · obtain rfl : i = j := by omega
                    have e1 : (vals ++ [Value.slice pp pc pq]).getD i undef = .slice pp pc pq := by have := getD_append_last vals (Value.slice pp pc pq) undef; rw [HVL2.out] at this; exact this
                    have e2 : row ((ch ++ [p]).map natInts) i = natInts p := by
                      show ((ch ++ [p]).map natInts).getD i [] = _
                      rw [List.map_append]
                      have := getD_append_last (ch.map natInts) (natInts p) []
                      rw [List.length_map, ← HQ.out] at this
                      exact this
                    rw [e1, e2]
                    exact HNP.out.below hz1
              have hj9 : j < 1000000000 := by omega
              clear hvl hsl3 hvr
              go_upto_region 14 with fail
              go_cut [12] (fun u wx => ∃ (up : Option Addr) (ul uc : Nat), u = .slice up ul uc ∧ ul = ((pickN (TchG (ofG g)) C r (ch ++ [p])).getD []).length ∧ Rws wx 26 2 (.slice up ul uc) (((pickN (TchG (ofG g)) C r (ch ++ [p])).getD []).map natInts) ∧ Below w3.heap.size w3 wx)
              case first =>
                refine wp_region_held_drew (S := (fun w' => w'.cell? ⟨ab, 0, none⟩ = some (.slice ga g.length gc))) (by kernel_rfl) ?_ (fun hHeld => ?_)
                · exact hcg
                refine wpAnyH_take (i := 0) (v := .agg #[.slice ga g.length gc]) rfl (by kernel_rfl) (by kernel_rfl) (by kernel_rfl) (fun _ _ _ h => h) (Or.inl ⟨by rfl, ?_⟩) (by assumption) ?_
                · intro wz hSw; (try dsimp only at hSw); go_simp; try rfl
                try simp only [Act.put, List.getElem_toArray, List.getElem_cons_succ, List.getElem_cons_zero, List.setIfInBounds_toArray, List.set_cons_zero, List.set_cons_succ]
                refine wpAnyH_take (i := 1) (v := .slice (some ⟨qb, qo, none⟩) m cc) rfl (by kernel_rfl) (by kernel_rfl) (by kernel_rfl) (fun _ _ _ h => h) (Or.inl ⟨by rfl, ?_⟩) (by assumption) ?_
                · intro wz hSw; (try dsimp only at hSw); go_simp; try rfl
                try simp only [Act.put, List.getElem_toArray, List.getElem_cons_succ, List.getElem_cons_zero, List.setIfInBounds_toArray, List.set_cons_zero, List.set_cons_succ]
                refine wpAnyH_take (i := 3) (v := .slice hp j hc) rfl (by kernel_rfl) (by kernel_rfl) (by kernel_rfl) (fun _ _ _ h => h) (Or.inl ⟨by rfl, ?_⟩) (by assumption) ?_
                · intro wz hSw; (try dsimp only at hSw); go_simp; try rfl
                try simp only [Act.put, List.getElem_toArray, List.getElem_cons_succ, List.getElem_cons_zero, List.setIfInBounds_toArray, List.set_cons_zero, List.set_cons_succ]
                refine wpAnyH_take (i := 5) (v := .slice pp pc pq) rfl (by kernel_rfl) (by kernel_rfl) (by kernel_rfl) (fun _ _ _ h => h) (Or.inl ⟨by rfl, ?_⟩) (by assumption) ?_
                · intro wz hSw; (try dsimp only at hSw); go_simp; try rfl
                try simp only [Act.put, List.getElem_toArray, List.getElem_cons_succ, List.getElem_cons_zero, List.setIfInBounds_toArray, List.set_cons_zero, List.set_cons_succ]
                have BD3 : Below w3.heap.size w3 w3.drew := below_dN (Below.refl _ _) 1
                refine wpAnyH_ready (rs := [2, 6]) (by kernel_rfl) (by simp) ?_
                refine AllReadyH.cons rfl (fun K hK => ?_) (AllReadyH.cons rfl (fun K hK => ?_) AllReadyH.nil)
                · go_simp
                  have BWA : Below w3.heap.size w3 (w3.drew.alloc (.cells #[] 26)) := Below.trans BD3 (below_alloc w3.drew _)
                  refine hK.out _ _ ?_ (fun hHeld => ?_)
                  · exact BWA.at' hcg
                  clear hK K
                  try simp only [Act.put, List.getElem_toArray, List.getElem_cons_succ, List.getElem_cons_zero, List.setIfInBounds_toArray, List.set_cons_zero, List.set_cons_succ]
                  refine wpAnyH_ready (rs := [4, 6]) (by kernel_rfl) (by simp) ?_
                  refine AllReadyH.cons rfl (fun K hK => ?_) (AllReadyH.cons rfl (fun K hK => ?_) AllReadyH.nil)
                  · have BWL := BWA
                    refine step_appN ty_rows (w := w3.drew.alloc (.cells #[] 26)) (s := .tmp 54) (x := .tmp 55) (v := .slice (some ⟨w3.heap.size, 0, none⟩) 0 0) (xv := .slice hp j hc) (n := 0) (m := j) (xs := []) (news := vals) (base := w3.heap.size) rfl rfl rfl (ownsRow_empty w3.drew 26 1) rfl (HS3.out.below BWL) HVL2.out HV1.out (by omega) BWL.size ?_
                    intro v4 w4 hown4 hg4
                    rw [Nat.zero_add, List.nil_append] at hown4
                    have BW4 : Below w3.heap.size w3 w4 := below_grown BWL (ownsRow_empty w3.drew 26 1) hg4 (Nat.le_refl _) BWL.size
                    refine hK.out _ _ ?_ (fun hHeld => ?_)
                    · exact BW4.at' hcg
                    clear hK K
                    try simp only [Act.put, List.getElem_toArray, List.getElem_cons_succ, List.getElem_cons_zero, List.setIfInBounds_toArray, List.set_cons_zero, List.set_cons_succ]
                    refine wpAnyH_ready (rs := [6]) (by kernel_rfl) (by simp) ?_
                    refine AllReadyH.cons rfl (fun K hK => ?_) AllReadyH.nil
                    go_simp
                    have BW5 : Below w3.heap.size w3 (w4.alloc (.cells #[.slice pp pc pq] 26)) := BW4.trans ((below_alloc w4 _).mono BW4.size)
                    refine hK.out _ _ ?_ (fun hHeld => ?_)
                    · exact BW5.at' hcg
                    clear hK K
                    try simp only [Act.put, List.getElem_toArray, List.getElem_cons_succ, List.getElem_cons_zero, List.setIfInBounds_toArray, List.set_cons_zero, List.set_cons_succ]
                    refine wpAnyH_ready (rs := [7]) (by kernel_rfl) (by simp) ?_
                    refine AllReadyH.cons rfl (fun K hK => ?_) AllReadyH.nil
                    refine step_app1h ty_rows (w := w4.alloc (.cells #[.slice pp pc pq] 26)) (s := .tmp 56) (x := .tmp 58) (v := v4) (xv := .slice (some ⟨w4.heap.size, 0, none⟩) 1 1) (n := j) (xs := vals) (base := w3.heap.size) (el := .slice pp pc pq) rfl rfl rfl (hown4.alloc _) rfl (sl_oneAt (heap_alloc_new w4 _)) rfl hj9 BW5.size ?_
                    intro b7 c7 w7 hown7 hg7
                    have BW7 : Below w3.heap.size w3 w7 := below_grown BW5 (hown4.alloc _) hg7 (Nat.le_refl _) BW5.size
                    have HO7 := Lib.hid hown7
                    clear hown7 hg7
                    refine hK.out _ _ ?_ (fun hHeld => ?_)
                    · exact BW7.at' hcg
                    clear hK K
                    try simp only [Act.put, List.getElem_toArray, List.getElem_cons_succ, List.getElem_cons_zero, List.setIfInBounds_toArray, List.set_cons_zero, List.set_cons_succ]
                    refine wpAnyH_ready (rs := [8]) (by kernel_rfl) (by simp) ?_
                    refine AllReadyH.cons rfl (fun K hK => ?_) AllReadyH.nil
                    go_simp
                    go_at_call 85
                    refine (REC.out _ _ _ BW7 HO7.out).mono ?_
                    rintro e w8 ⟨up, ul, uc, rfl, hul8, hrw8, hb8⟩
                    have HUL8 := Lib.hid hul8
                    have HRW8 := Lib.hid hrw8
                    clear hul8 hrw8
                    have BW8 : Below w3.heap.size w3 w8 := BW7.trans (hb8.mono BW7.size)
                    refine hK.out _ _ ?_ (fun hHeld => ?_)
                    · exact BW8.at' hcg
                    clear hK K
                    try simp only [Act.put, List.getElem_toArray, List.getElem_cons_succ, List.getElem_cons_zero, List.setIfInBounds_toArray, List.set_cons_zero, List.set_cons_succ]
                    refine wpAnyH_ready (rs := [9]) (by kernel_rfl) (by simp) ?_
                    refine AllReadyH.cons rfl (fun K hK => ?_) AllReadyH.nil
                    go_simp
                    refine hK.out _ _ ?_ (fun hHeld => ?_)
                    · exact BW8.at' hcg
                    clear hK K
                    try simp only [Act.put, List.getElem_toArray, List.getElem_cons_succ, List.getElem_cons_zero, List.setIfInBounds_toArray, List.set_cons_zero, List.set_cons_succ]
                    refine wpAnyH_done (by kernel_rfl) ?_ _
                    go_wp2
                    go_meet
                    exact ⟨up, ul, uc, rfl, HUL8.out, HRW8.out, BW8⟩
                  · go_simp
                    have BWL : Below w3.heap.size w3 ((w3.drew.alloc (.cells #[] 26)).alloc (.cells #[.slice pp pc pq] 26)) := BWA.alloc BWA.size _
                    refine hK.out _ _ ?_ (fun hHeld => ?_)
                    · exact BWL.at' hcg
                    clear hK K
                    try simp only [Act.put, List.getElem_toArray, List.getElem_cons_succ, List.getElem_cons_zero, List.setIfInBounds_toArray, List.set_cons_zero, List.set_cons_succ]
                    refine wpAnyH_ready (rs := [4]) (by kernel_rfl) (by simp) ?_
                    refine AllReadyH.cons rfl (fun K hK => ?_) AllReadyH.nil
                    refine step_appN ty_rows (w := (w3.drew.alloc (.cells #[] 26)).alloc (.cells #[.slice pp pc pq] 26)) (s := .tmp 54) (x := .tmp 55) (v := .slice (some ⟨w3.heap.size, 0, none⟩) 0 0) (xv := .slice hp j hc) (n := 0) (m := j) (xs := []) (news := vals) (base := w3.heap.size) rfl rfl rfl ((ownsRow_empty w3.drew 26 1).alloc _) rfl (HS3.out.below BWL) HVL2.out HV1.out (by omega) BWL.size ?_
                    intro v4 w4 hown4 hg4
                    rw [Nat.zero_add, List.nil_append] at hown4
                    have BW4 : Below w3.heap.size w3 w4 := below_grown BWL ((ownsRow_empty w3.drew 26 1).alloc _) hg4 (Nat.le_refl _) BWL.size
                    have LIT4 : w4.heap[w3.heap.size + 1]? = some (.cells #[.slice pp pc pq] 26 (0, 0)) := (hg4.block _ (by show w3.heap.size + 1 < (Array.push _ _).size; rw [Array.size_push]; show w3.heap.size + 1 < (Array.push _ _).size + 1; rw [Array.size_push]; exact Nat.lt_succ_self _) (fun e => by simp [Value.ownBlock] at e)).trans (by have h9 := heap_alloc_new (w3.drew.alloc (.cells #[] 26)) (.cells #[.slice pp pc pq] 26); rw [size_alloc] at h9; exact h9)
                    have BW5 := BW4
                    refine hK.out _ _ ?_ (fun hHeld => ?_)
                    · exact BW4.at' hcg
                    clear hK K
                    try simp only [Act.put, List.getElem_toArray, List.getElem_cons_succ, List.getElem_cons_zero, List.setIfInBounds_toArray, List.set_cons_zero, List.set_cons_succ]
                    refine wpAnyH_ready (rs := [7]) (by kernel_rfl) (by simp) ?_
                    refine AllReadyH.cons rfl (fun K hK => ?_) AllReadyH.nil
                    refine step_app1h ty_rows (w := w4) (s := .tmp 56) (x := .tmp 58) (v := v4) (xv := .slice (some ⟨w3.heap.size + 1, 0, none⟩) 1 1) (n := j) (xs := vals) (base := w3.heap.size) (el := .slice pp pc pq) rfl rfl rfl hown4 rfl (sl_oneAt LIT4) rfl hj9 BW5.size ?_
                    intro b7 c7 w7 hown7 hg7
                    have BW7 : Below w3.heap.size w3 w7 := below_grown BW5 hown4 hg7 (Nat.le_refl _) BW5.size
                    have HO7 := Lib.hid hown7
                    clear hown7 hg7
                    refine hK.out _ _ ?_ (fun hHeld => ?_)
                    · exact BW7.at' hcg
                    clear hK K
                    try simp only [Act.put, List.getElem_toArray, List.getElem_cons_succ, List.getElem_cons_zero, List.setIfInBounds_toArray, List.set_cons_zero, List.set_cons_succ]
                    refine wpAnyH_ready (rs := [8]) (by kernel_rfl) (by simp) ?_
                    refine AllReadyH.cons rfl (fun K hK => ?_) AllReadyH.nil
                    go_simp
                    go_at_call 85
                    refine (REC.out _ _ _ BW7 HO7.out).mono ?_
                    rintro e w8 ⟨up, ul, uc, rfl, hul8, hrw8, hb8⟩
                    have HUL8 := Lib.hid hul8
                    have HRW8 := Lib.hid hrw8
                    clear hul8 hrw8
                    have BW8 : Below w3.heap.size w3 w8 := BW7.trans (hb8.mono BW7.size)
                    refine hK.out _ _ ?_ (fun hHeld => ?_)
                    · exact BW8.at' hcg
                    clear hK K
                    try simp only [Act.put, List.getElem_toArray, List.getElem_cons_succ, List.getElem_cons_zero, List.setIfInBounds_toArray, List.set_cons_zero, List.set_cons_succ]
                    refine wpAnyH_ready (rs := [9]) (by kernel_rfl) (by simp) ?_
                    refine AllReadyH.cons rfl (fun K hK => ?_) AllReadyH.nil
                    go_simp
                    refine hK.out _ _ ?_ (fun hHeld => ?_)
                    · exact BW8.at' hcg
                    clear hK K
                    try simp only [Act.put, List.getElem_toArray, List.getElem_cons_succ, List.getElem_cons_zero, List.setIfInBounds_toArray, List.set_cons_zero, List.set_cons_succ]
                    refine wpAnyH_done (by kernel_rfl) ?_ _
                    go_wp2
                    go_meet
                    exact ⟨up, ul, uc, rfl, HUL8.out, HRW8.out, BW8⟩
                · go_simp
                  have BWA : Below w3.heap.size w3 (w3.drew.alloc (.cells #[.slice pp pc pq] 26)) := Below.trans BD3 (below_alloc w3.drew _)
                  refine hK.out _ _ ?_ (fun hHeld => ?_)
                  · exact BWA.at' hcg
                  clear hK K
                  try simp only [Act.put, List.getElem_toArray, List.getElem_cons_succ, List.getElem_cons_zero, List.setIfInBounds_toArray, List.set_cons_zero, List.set_cons_succ]
                  refine wpAnyH_ready (rs := [2]) (by kernel_rfl) (by simp) ?_
                  refine AllReadyH.cons rfl (fun K hK => ?_) AllReadyH.nil
                  go_simp
                  have BWL : Below w3.heap.size w3 ((w3.drew.alloc (.cells #[.slice pp pc pq] 26)).alloc (.cells #[] 26)) := BWA.alloc BWA.size _
                  refine hK.out _ _ ?_ (fun hHeld => ?_)
                  · exact BWL.at' hcg
                  clear hK K
                  try simp only [Act.put, List.getElem_toArray, List.getElem_cons_succ, List.getElem_cons_zero, List.setIfInBounds_toArray, List.set_cons_zero, List.set_cons_succ]
                  refine wpAnyH_ready (rs := [4]) (by kernel_rfl) (by simp) ?_
                  refine AllReadyH.cons rfl (fun K hK => ?_) AllReadyH.nil
                  refine step_appN ty_rows (w := (w3.drew.alloc (.cells #[.slice pp pc pq] 26)).alloc (.cells #[] 26)) (s := .tmp 54) (x := .tmp 55) (v := .slice (some ⟨w3.heap.size + 1, 0, none⟩) 0 0) (xv := .slice hp j hc) (n := 0) (m := j) (xs := []) (news := vals) (base := w3.heap.size) rfl rfl rfl (ownsRow_empty' w3.drew _ 26 1 w3.heap.size (Nat.le_succ _)) rfl (HS3.out.below BWL) HVL2.out HV1.out (by omega) BWL.size ?_
                  intro v4 w4 hown4 hg4
                  rw [Nat.zero_add, List.nil_append] at hown4
                  have BW4 : Below w3.heap.size w3 w4 := below_grown BWL (ownsRow_empty' w3.drew _ 26 1 w3.heap.size (Nat.le_succ _)) hg4 (Nat.le_refl _) BWL.size
                  have LIT4 : w4.heap[w3.heap.size]? = some (.cells #[.slice pp pc pq] 26 (0, 0)) := (hg4.block _ (by show w3.heap.size < (Array.push _ _).size; rw [Array.size_push]; show w3.heap.size < (Array.push _ _).size + 1; rw [Array.size_push]; exact Nat.lt_succ_of_lt (Nat.lt_succ_self _)) (fun e => by simp [Value.ownBlock] at e)).trans ((Below.heap_alloc (w3.drew.alloc (.cells #[.slice pp pc pq] 26)) (.cells #[] 26) w3.heap.size (by rw [size_alloc]; exact Nat.lt_succ_self _)).trans (heap_alloc_new w3.drew (.cells #[.slice pp pc pq] 26)))
                  have BW5 := BW4
                  refine hK.out _ _ ?_ (fun hHeld => ?_)
                  · exact BW4.at' hcg
                  clear hK K
                  try simp only [Act.put, List.getElem_toArray, List.getElem_cons_succ, List.getElem_cons_zero, List.setIfInBounds_toArray, List.set_cons_zero, List.set_cons_succ]
                  refine wpAnyH_ready (rs := [7]) (by kernel_rfl) (by simp) ?_
                  refine AllReadyH.cons rfl (fun K hK => ?_) AllReadyH.nil
                  refine step_app1h ty_rows (w := w4) (s := .tmp 56) (x := .tmp 58) (v := v4) (xv := .slice (some ⟨w3.heap.size, 0, none⟩) 1 1) (n := j) (xs := vals) (base := w3.heap.size) (el := .slice pp pc pq) rfl rfl rfl hown4 rfl (sl_oneAt LIT4) rfl hj9 BW5.size ?_
                  intro b7 c7 w7 hown7 hg7
                  have BW7 : Below w3.heap.size w3 w7 := below_grown BW5 hown4 hg7 (Nat.le_refl _) BW5.size
                  have HO7 := Lib.hid hown7
                  clear hown7 hg7
                  refine hK.out _ _ ?_ (fun hHeld => ?_)
                  · exact BW7.at' hcg
                  clear hK K
                  try simp only [Act.put, List.getElem_toArray, List.getElem_cons_succ, List.getElem_cons_zero, List.setIfInBounds_toArray, List.set_cons_zero, List.set_cons_succ]
                  refine wpAnyH_ready (rs := [8]) (by kernel_rfl) (by simp) ?_
                  refine AllReadyH.cons rfl (fun K hK => ?_) AllReadyH.nil
                  go_simp
                  go_at_call 85
                  refine (REC.out _ _ _ BW7 HO7.out).mono ?_
                  rintro e w8 ⟨up, ul, uc, rfl, hul8, hrw8, hb8⟩
                  have HUL8 := Lib.hid hul8
                  have HRW8 := Lib.hid hrw8
                  clear hul8 hrw8
                  have BW8 : Below w3.heap.size w3 w8 := BW7.trans (hb8.mono BW7.size)
                  refine hK.out _ _ ?_ (fun hHeld => ?_)
                  · exact BW8.at' hcg
                  clear hK K
                  try simp only [Act.put, List.getElem_toArray, List.getElem_cons_succ, List.getElem_cons_zero, List.setIfInBounds_toArray, List.set_cons_zero, List.set_cons_succ]
                  refine wpAnyH_ready (rs := [9]) (by kernel_rfl) (by simp) ?_
                  refine AllReadyH.cons rfl (fun K hK => ?_) AllReadyH.nil
                  go_simp
                  refine hK.out _ _ ?_ (fun hHeld => ?_)
                  · exact BW8.at' hcg
                  clear hK K
                  try simp only [Act.put, List.getElem_toArray, List.getElem_cons_succ, List.getElem_cons_zero, List.setIfInBounds_toArray, List.set_cons_zero, List.set_cons_succ]
                  refine wpAnyH_done (by kernel_rfl) ?_ _
                  go_wp2
                  go_meet
                  exact ⟨up, ul, uc, rfl, HUL8.out, HRW8.out, BW8⟩
              case rest =>
                obtain ⟨up, ul, uc, rfl, hul, hrw, hbx⟩ := hcut
                have HBX := Lib.hid (HB.out.trans (hbx.mono HB.out.size))
                have HRW := Lib.hid hrw
                clear hbx hcg hrw
                obtain ⟨pk, hpk⟩ : ∃ pk, pk = pickN (TchG (ofG g)) C r (ch ++ [p]) := ⟨_, rfl⟩
                rw [← hpk] at hul HRW HPF
                have HPKL : Hid (∀ L, pk = some L → 0 < L.length) := Lib.hid (fun L hL => by
                  obtain ⟨h1, _⟩ := pickN_len r _ L (by rw [← hpk, hL])
                  rw [List.length_append] at h1
                  simp at h1
                  omega)
                clear hpk
                cases pk with
                | none =>
                  obtain rfl : ul = 0 := hul
                  go_wp2
                  go_roundw
                  case rel => exact ⟨k + 1, by omega, by go_num, Lib.hid (NEXT.out HPF.out), HBX⟩
                  case measure => simp [intOf]; omega
                | some L =>
                  change ul = L.length at hul
                  have hul0 : 0 < ul := by rw [hul]; exact HPKL.out L rfl
                  have HUL := Lib.hid hul
                  clear hul
                  go_wp2
                  go_ret
                  have hq := HQ.out
                  subst hq
                  have hPP := HP.out
                  subst hPP
                  have hk2 : k < (C.getD ch.length []).length := by rw [← HPL.out]; exact hlt
                  rw [pickG_some (k := k) hk2 HNO.out (by have := HPF.out; rw [HPK.out] at this; exact this)]
                  exact ⟨up, ul, uc, rfl, HUL.out, HRW.out, HB1.out.trans (HBX.out.mono s1)⟩
      · obtain rfl : k = pl := by omega
        go_wp2
        go_ret
        have hq := HQ.out
        subst hq
        have hPP := HP.out
        subst hPP
        rw [pickG_none fun j hj => HNO.out j hj (by rw [HPL.out]; exact hj)]
        exact ⟨_, 0, 0, rfl, rfl, ⟨[], rfl, ⟨_, 0, rfl, (fun e => by cases e), Nat.le_refl _, Nat.zero_le _, .inl rfl⟩, fun j hj => absurd hj (Nat.not_lt_zero _)⟩, HB1.out.trans ((HB.out.mono s1).alloc (by have := HB.out.size; omega) _)⟩

end Go.Proofs.YtiooindlpinjhaaDoor
