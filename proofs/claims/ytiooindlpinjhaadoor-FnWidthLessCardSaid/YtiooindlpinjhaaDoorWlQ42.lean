/- Walk: a graph out of its edges (the reference's GraphOf), for the draws of the laws. -/
import Derived.Test.YtiooindlpinjhaaDoorWlQ14
import Derived.Test.YtiooindlpinjhaaDoorWlQ13
import Derived.Test.YtiooindlpinjhaaDoorWlQ3
import Derived.Deep.RegionLaw
import Derived.Test.YtiooindlpinjhaaDoorWlQ41
namespace Go.Proofs.YtiooindlpinjhaaDoor
open Go.RowKit

def SymI (E : Nat → Nat → Bool) : Prop := (∀ r j, E r j = true → E j r = true) ∧ ∀ r, E r r = false
theorem symI_none : SymI fun _ _ => false := ⟨fun _ _ h => h, fun _ => rfl⟩
theorem symI_link {E : Nat → Nat → Bool} (h : SymI E) {u v : Nat} (huv : u ≠ v) : SymI fun r j => E r j || (r == u && j == v) || (r == v && j == u) := by
  refine ⟨fun r j hE => ?_, fun r => ?_⟩
  · simp only [Bool.or_eq_true, Bool.and_eq_true, beq_iff_eq] at hE ⊢
    rcases hE with (hE | ⟨h1, h2⟩) | ⟨h1, h2⟩
    · exact .inl (.inl (h.1 _ _ hE))
    · exact .inr ⟨h2, h1⟩
    · exact .inl (.inr ⟨h2, h1⟩)
  · have h1 : ¬ (r = u ∧ r = v) := fun ⟨a, b⟩ => huv (a ▸ b)
    have h2 : ¬ (r = v ∧ r = u) := fun ⟨a, b⟩ => huv (b ▸ a)
    simp only [h.2 r, Bool.false_or, Bool.or_eq_false_iff, Bool.and_eq_false_iff, beq_eq_false_iff_ne]
    refine ⟨?_, ?_⟩
    · by_cases e : r = u
      · exact .inr fun e2 => h1 ⟨e, e2⟩
      · exact .inl e
    · by_cases e : r = v
      · exact .inr fun e2 => h2 ⟨e, e2⟩
      · exact .inl e

structure GoI (w wr : World) (B b6 n : Nat) (gp : Option Addr) (gc : Nat) (Be : Nat) (ev : Value) (l : List (Nat × Nat)) (E : Nat → Nat → Bool) : Prop where
  sg : SG wr B (.agg #[.slice gp n gc]) (matG n E)
  res : Box wr w.heap.size 28 (.slice none 0 0)
  box : Box wr b6 28 (.slice gp n gc)
  prs : PrsO wr Be ev l
  bel : Below w.heap.size w wr
  own : ∀ b, (Value.slice gp n gc).ownBlock = some b → w.heap.size < b ∧ b < b6
  far : ∀ b, ev.ownBlock = some b → b < w.heap.size
  hB : w.heap.size < B
  h6 : w.heap.size < b6
theorem GoI.next {w wr wx : World} {B b6 n : Nat} {gp : Option Addr} {gc Be : Nat} {ev : Value} {l : List (Nat × Nat)} {E : Nat → Nat → Bool} (h : GoI w wr B b6 n gp gc Be ev l E) (hb : Below wr.heap.size wr wx) : GoI w wx B b6 n gp gc Be ev l E :=
  ⟨h.sg.below hb, h.res.keep hb, h.box.keep hb, h.prs.below hb, h.bel.trans (hb.mono h.bel.size), h.own, h.far, h.hB, h.h6⟩
theorem GoI.link {w wr w2 : World} {B b6 n : Nat} {gp : Option Addr} {gc Be : Nat} {ev : Value} {l : List (Nat × Nat)} {E E' : Nat → Nat → Bool} (h : GoI w wr B b6 n gp gc Be ev l E)
    (hs : SG w2 B (.agg #[.slice gp n gc]) (matG n E')) (hg : wr.grownBy w2 (Value.slice gp n gc).ownBlock) : GoI w (w2.setCell ⟨b6, 0, none⟩ (.slice gp n gc)) B b6 n gp gc Be ev l E' := by
  have hbox := h.box.grown hg (fun e => by have := (h.own _ e.symm).2; omega)
  have hres := h.res.grown hg (fun e => by have := (h.own _ e.symm).1; omega)
  have hsg := h.sg
  have hl := matG_length n E
  obtain ⟨u0, vals, e1, hv, ho, hr⟩ := hsg
  cases e1
  rw [hl] at hv ho hr
  have hprs := h.prs.keptO ho hg (fun b hb e => by have h1 := h.far b hb; have h2 := (h.own b e).1; omega)
  have h6 := h.h6
  have hbel : Below w.heap.size w w2 := ⟨hg.os.trans h.bel.os, hg.tape.trans h.bel.tape, hg.output.trans h.bel.output, Nat.le_trans h.bel.size hg.size, fun k hk => (hg.block k (Nat.lt_of_lt_of_le hk h.bel.size) (fun e => by have := (h.own k e.symm).1; omega)).trans (h.bel.block k hk)⟩
  refine ⟨hs.setBox hbox _, hres.setOther (by show w.heap.size ≠ b6; omega) _, hbox.set _, ?_, hbel.setCell (p := ⟨b6, 0, none⟩) (Nat.le_of_lt h6) _, h.own, h.far, h.hB, h6⟩
  obtain ⟨vals2, q1, q2, q3⟩ := hprs
  exact ⟨vals2, q1, ownsRow_setBox q2 hbox (by decide) _, fun j hj => (q3 j hj).setBox hbox (by decide) _⟩

set_option maxRecDepth 100000 in
set_option maxHeartbeats 4000000 in
theorem specGraphOf_any (ev : Value) (z : Int) (n Be : Nat) (l : List (Nat × Nat)) (hz : z = n) (hn1 : 1 ≤ n) (hn16 : n ≤ 16) (hl : ∀ e ∈ l, e.1 < e.2 ∧ e.2 < n) (h120 : l.length ≤ 120) (w : World) (hp : PrsO w Be ev l) :
    Calls Tryd.prog 63 #[.int .i64 z, ev] w fun e w' => ∃ (u : Value) (E : Nat → Nat → Bool), e = .returned (.tuple #[u, .bool true]) ∧ SymI E ∧ SG w' w.heap.size u (matG n E) ∧ Below w.heap.size w w' := by
  subst hz
  obtain ⟨ep, ec, rfl⟩ := hp.shape
  have HP := Lib.hid hp
  have HL := Lib.hid hl
  have hd1 : dec ((1 : Int) ≤ (n : Int) ∧ (n : Int) ≤ 16) = true := dec_true ⟨by omega, by omega⟩
  have HD1 := Lib.hid hd1
  have HR := Lib.hid (Box.new w (.slice none 0 0) 28)
  have HB1 := Lib.hid (below_alloc w (.cells #[.slice none 0 0] 28))
  have HFAR : Hid (∀ b, (Value.slice ep l.length ec).ownBlock = some b → b < w.heap.size) := Lib.hid (fun b hb => by
    obtain ⟨vals, _, h2, _⟩ := hp
    exact (h2.lt b hb).2)
  clear hp hl hd1
  go_enter Tryd.func63, Tryd.ntmps63
  go_upto_region 4 with (first
    | (go_at_call 128; refine (l1Empty_any _ n rfl (by omega) _).mono ?_; rintro e w2 ⟨u, rfl, hs2, hb2⟩; obtain ⟨gp, gc, rfl⟩ := hs2.shape; rw [List.length_replicate] at hs2 ⊢)
    | (go_at_call 116; refine (l1In_any _ _ _ _).mono ?_; rintro e w1 ⟨he, rfl⟩; rw [HD1.out] at he; subst he))
  have hempty : matG n (fun _ _ => false) = List.replicate n [] := matG_none n fun _ _ _ _ => rfl
  rw [← hempty] at hs2
  obtain ⟨w3, hw3⟩ : ∃ w3, w3 = w2.alloc (.cells #[.slice gp n gc] 28) := ⟨_, rfl⟩
  rw [← hw3]
  have hb23 : Below w2.heap.size w2 w3 := by rw [hw3]; exact below_alloc _ _
  have s1 : (w.alloc (.cells #[.slice none 0 0] 28)).heap.size = w.heap.size + 1 := size_alloc _ _
  have s2 := hb2.size
  have START : Hid (GoI w w3 (w.heap.size + 1) w2.heap.size n gp gc Be (.slice ep l.length ec) l (fun _ _ => false)) := Lib.hid
    { sg := by rw [← s1]; exact hs2.below hb23
      res := (HR.out.keep hb2).keep hb23
      box := by rw [hw3]; exact Box.new _ _ _
      prs := ((HP.out.below HB1.out).below hb2).below hb23
      bel := (HB1.out.trans (hb2.mono HB1.out.size)).trans (hb23.mono (Nat.le_trans HB1.out.size s2))
      own := fun b hb => by
        obtain ⟨u0, vals, e1, hv, ho, hr⟩ := hs2
        cases e1
        have := ho.lt b hb
        omega
      far := HFAR.out
      hB := Nat.lt_succ_self _
      h6 := by omega }
  generalize w2.heap.size = b6 at START
  clear hb2 hs2 hw3 hb23 s1 s2 hempty HR HB1 HP
  go_upto_region 4 with fail
  go_wp2
  go_loopw [7] (fun i wr => ∃ (t : Nat) (E : Nat → Nat → Bool), i = .int .i64 t ∧ t ≤ l.length ∧ Hid (SymI E) ∧ Hid (GoI w wr (w.heap.size + 1) b6 n gp gc Be (.slice ep l.length ec) l E)) (fun i _ => l.length - (intOf i).toNat)
  case atStart => exact ⟨0, _, rfl, Nat.zero_le _, Lib.hid symI_none, START⟩
  case round =>
    clear START
    obtain ⟨t, E, rfl, ht, HSE, HG⟩ := hrel
    by_cases hlt : t < l.length
    · obtain ⟨eb, eo, rp, rc, he, hce, hne⟩ := HG.out.prs.get hlt
      subst he
      have hmem := HL.out _ (List.getElem_mem hlt)
      obtain ⟨⟨a, b⟩, hab⟩ : ∃ e : Nat × Nat, e = l[t] := ⟨_, rfl⟩
      rw [← hab] at hmem hne
      obtain ⟨hlt1, hlt2⟩ := hmem
      simp only at hlt1 hlt2 hne
      have HNE := Lib.hid hne
      have hset : SetIn (n : Int) [(a : Int), (b : Int)] := ⟨fun x hx => by
        simp only [List.mem_cons, List.not_mem_nil, or_false] at hx
        rcases hx with rfl | rfl <;> omega, by simp; omega⟩
      have HSD := Lib.hid (dec_true hset)
      clear hne hab hset
      go_upto_region 9 with (go_at_call 117; refine (l1Set_any _ [(a : Int), (b : Int)] n (by omega) (by omega) _ HNE.out).mono ?_; rintro e w5 ⟨he, hb5⟩; rw [HSD.out] at he; subst he)
      have HG5 := Lib.hid (HG.out.next hb5)
      have hce5 := hb5.at' hce
      have hne5 := HNE.out.below hb5
      obtain ⟨rb, ro, rfl, hc0⟩ := hne5.get (k := 0) (by simp)
      obtain ⟨_, _, e1, hc1⟩ := hne5.get (k := 1) (by simp)
      cases e1
      simp only [List.getElem_cons_zero, List.getElem_cons_succ, Nat.add_zero] at hc0 hc1
      have huv : a ≠ b := by omega
      have hlk : ∀ wz, wz = w5.drew → Calls Tryd.prog 106 #[.agg #[.slice gp n gc], .int .i64 (a : Int), .int .i64 (b : Int)] wz fun e w' => e = .returned (.agg #[.slice gp n gc]) ∧ SG w' (w.heap.size + 1) (.agg #[.slice gp n gc]) (matG n (fun r j => E r j || (r == a && j == b) || (r == b && j == a))) ∧ wz.grownBy w' (Value.slice gp n gc).ownBlock := by
        rintro wz rfl
        have hml := matG_length n E
        have := l1Link_any gp gc (matG n E) a b a b (w.heap.size + 1) rfl rfl (by rw [hml]; omega) (by rw [hml]; omega) (fun j _ => Nat.le_trans (matG_row_le j) (by omega)) w5.drew (by rw [hml]; exact HG5.out.sg.below (below_dN (Below.refl _ _) 1))
        rw [hml, link_matG (by omega) hlt2 huv] at this
        exact this
      have Hlk := Lib.hid hlk
      have hb6c := HG5.out.box.cell
      have hb6f := HG5.out.box.free
      have HSN := Lib.hid (symI_link HSE.out huv)
      clear hlk hne5 hb5 hce
      go_region_law (first | (go_simp; go_at_call 106; refine (Hlk.out _ rfl).mono ?_; rintro e w6 ⟨rfl, hs6, hg6⟩; have hg6' : w5.grownBy w6 (Value.slice gp n gc).ownBlock := ⟨hg6.os, (hg6.tape).trans rfl, hg6.output, hg6.size, hg6.block⟩; have hbx := HG5.out.box.grown hg6' (fun e => by have := (HG5.out.own _ e.symm).2; omega); have hc6 := hbx.cell; have hf6 := hbx.free))
      all_goals go_wp2
      all_goals go_roundw
      all_goals first
        | exact ⟨t + 1, _, by go_num, by omega, HSN, Lib.hid (HG5.out.link hs6 hg6')⟩
        | (simp [intOf]; omega)
    · obtain rfl : t = l.length := by omega
      have hb6c := HG.out.box.cell
      obtain ⟨nc, nf, _, _⟩ := HG.out.res
      go_wp2
      refine bodyPost_ret (v := .tuple #[.agg #[.slice gp n gc], .bool true]) (by simp [results, Tryd.results63, go_sem, nc]) rfl ⟨_, E, rfl, HSE.out, SG.base (HG.out.sg.setBox HG.out.res _) (Nat.le_succ _), ?_⟩
      exact HG.out.bel.setCell (p := ⟨w.heap.size, 0, none⟩) (Nat.le_refl _) _

end Go.Proofs.YtiooindlpinjhaaDoor

/- Walks: the reference's draws: graphs whose rows are the callee's own (l1Empty, l6Of, PathGraph, LoopGraph). -/
namespace Go.Proofs.YtiooindlpinjhaaDoor
open Go.RowKit

set_option maxRecDepth 100000 in
set_option maxHeartbeats 2000000 in
theorem l1EmptyD_any (z : Int) (n : Nat) (hz : z = n) (hn : n ≤ 1000) (w : World) :
    Calls Tryd.prog 128 #[.int .i64 z] w fun e w' => ∃ u, e = .returned u ∧ DG w' w.heap.size u (List.replicate n []) ∧ Below w.heap.size w w' := by
  subst hz
  have START := Lib.hid (two_boxes w)
  go_enter Tryd.func128, Tryd.ntmps128
  go_wp2
  go_loopw [4] (fun i wr => ∃ (k : Nat) (ov : Value) (vals : List Value), k ≤ n ∧ i = .int .i64 k ∧ Below w.heap.size w wr ∧ w.heap.size + 2 ≤ wr.heap.size ∧
      Box wr w.heap.size 28 (.slice none 0 0) ∧ Box wr (w.heap.size + 1) 28 ov ∧ wr.ownsRow (w.heap.size + 2) 26 1 ov k vals ∧ vals.length = k ∧ Dis wr (w.heap.size + 2) k vals (List.replicate n []))
    (fun i _ => n - (intOf i).toNat)
  case atStart =>
    obtain ⟨W, rfl, h1, h2, h3, h4⟩ := START.out
    exact ⟨0, _, [], Nat.zero_le _, rfl, h1, by omega, h3, h4, World.ownsRow_nil _ _ _ _, rfl, ⟨fun j hj => by omega, fun i j hi => by omega⟩⟩
  case round =>
    obtain ⟨k, ov, vals, hk, rfl, hbel, hsz, hb2, hb3, hown, hvl, hrows⟩ := hrel
    have Hvl := Lib.hid hvl
    have Hrows := Lib.hid hrows
    have Hb2 := Lib.hid hb2
    have Hb3 := Lib.hid hb3
    have Hown := Lib.hid hown
    clear hvl hrows hb3 hb2 hown
    by_cases hlt : k < n
    · have hba := Lib.hid (below_alloc wr (.cells #[] 2))
      have hownc := ownsRow_below Hown.out hba.out
      obtain ⟨c3, f3, _, _⟩ := Hb3.out
      have hob := fun o => (below_alloc2 wr (.cells #[] 2) o).at' c3
      go_wp2_with (at_builtin; refine wpList_app1s ty_rows rfl rfl rfl hownc (by rw [size_alloc]; rfl) rfl (by omega) (by rw [size_alloc]; omega) ?_; intro b7 c8 w7 hown7 hg7 _; have hb7 := below_grown (Below.refl (w.heap.size + 2) (wr.alloc (.cells #[] 2))) hownc hg7 (Nat.le_refl _) (by rw [size_alloc]; omega); have hob7 := hb7.at (by omega) ((below_alloc wr (.cells #[] 2)).at' c3); have hof7 := (hb7.frozen (p := ⟨w.heap.size + 1, 0, none⟩) (by show w.heap.size + 1 < _; omega)).trans (((below_alloc wr (.cells #[] 2)).frozen (p := ⟨w.heap.size + 1, 0, none⟩) (by show w.heap.size + 1 < _; omega)).trans f3))
      go_roundw
      case rel =>
        obtain ⟨W, rfl, r1, r2, r3, r4, r5, r6⟩ := box_step hbel hsz hba.out Hb2.out Hb3.out Hown.out hown7 hg7
        refine ⟨k + 1, _, _, by omega, by go_num, r1, r2, r3, r4, r5, by simp [Hvl.out], ?_⟩
        have hd : Dis (wr.alloc (.cells #[] 2)) (w.heap.size + 2) k vals (List.replicate n []) := ⟨fun j hj => ownsRow_below (Hrows.out.rows j hj) hba.out, Hrows.out.dis⟩
        refine hd.snoc Hvl.out r6 (B := wr.heap.size) (by omega) (fun j hj b hb => ((Hrows.out.rows j hj).lt b hb).2) ?_
        rw [show row (List.replicate n ([] : List Int)) k = [] by simp [row, hlt]]
        exact ownsRow_empty _ _ _
      case measure => simp [intOf]; omega
    · obtain rfl : k = n := by omega
      obtain ⟨k2c, k2f, _⟩ := Hb2.out
      obtain ⟨k3c, k3f, _⟩ := Hb3.out
      obtain ⟨p9, c9, rfl⟩ : ∃ p c, ov = .slice p k c := by
        rcases Hown.out.2 with ⟨h1, h2⟩ | ⟨g1, cap, cur, h1, _⟩
        · exact ⟨none, 0, by rw [h1, h2]⟩
        · exact ⟨_, _, h1⟩
      go_wp2
      refine bodyPost_ret (v := .agg #[.slice p9 k c9]) (by simp [results, Tryd.results128, go_sem, k2c]) rfl ⟨_, rfl, ⟨_, vals, rfl, by simpa using Hvl.out, ?_, ⟨fun j hj => ?_, fun i j hi hj => Hrows.out.dis i j (by simpa using hi) (by simpa using hj)⟩⟩, ?_⟩
      · rw [List.length_replicate]; exact ownsRow_base (ownsRow_setBox Hown.out Hb2.out (by decide) (.slice p9 k c9)) (by omega)
      · rw [List.length_replicate] at hj
        exact ownsRow_base (ownsRow_setBox (Hrows.out.rows j hj) Hb2.out (by decide) _) (by omega)
      · exact hbel.setCell (by show w.heap.size ≤ w.heap.size; omega) _


theorem DG.lt {w : World} {base : Nat} {u : Value} {g : List (List Int)} (h : DG w base (.agg #[u]) g) : ∀ k, u.ownBlock = some k → base ≤ k ∧ k < w.heap.size := by
  obtain ⟨u', vals, e, _, h3, _⟩ := h
  cases e
  exact fun k hk => h3.lt k hk
/-- A boxed graph whose rows are the callee's own. -/
structure LdI (W0 wr : World) (base b5 : Nat) (p : Option Addr) (c m : Nat) (gg : List (List Int)) : Prop where
  dg : DG wr base (.agg #[.slice p m c]) gg
  bel : Below W0.heap.size W0 wr
  box : Box wr b5 28 (.slice p m c)
  own : ∀ k, (Value.slice p m c).ownBlock = some k → base ≤ k ∧ k < b5
  hb : W0.heap.size ≤ base
  b5 : base ≤ b5
theorem LdI.next {W0 wr wx : World} {base b5 : Nat} {p : Option Addr} {c m : Nat} {gg : List (List Int)} (h : LdI W0 wr base b5 p c m gg) (hb : Below wr.heap.size wr wx) : LdI W0 wx base b5 p c m gg :=
  ⟨h.dg.below hb, h.bel.trans (hb.mono h.bel.size), h.box.keep hb, h.own, h.hb, h.b5⟩
theorem LdI.link {W0 wr w2 : World} {base b5 : Nat} {p : Option Addr} {c m : Nat} {gg gg' : List (List Int)} (h : LdI W0 wr base b5 p c m gg) (hs : DG w2 base (.agg #[.slice p m c]) gg') (hg : wr.grownBy w2 (Value.slice p m c).ownBlock) :
    LdI W0 (w2.setCell ⟨b5, 0, none⟩ (.slice p m c)) base b5 p c m gg' := by
  have hbox := h.box.grown hg (fun e => by have := (h.own b5 e.symm).2; omega)
  exact ⟨hs.setBox hbox _, (h.bel.grown hg h.bel.size (fun k hk => Nat.le_trans h.hb (h.own k hk).1)).setCell (Nat.le_trans h.hb h.b5) _, hbox.set _, h.own, h.hb, h.b5⟩
/-- Neighbours follow each other. -/
def pthE (r j : Nat) : Bool := decide (r + 1 = j) || decide (j + 1 = r)
theorem pthE_symI : SymI pthE := ⟨fun r j h => by unfold pthE at *; simp at *; omega, fun r => by unfold pthE; simp⟩
def pthTo (v : Nat) : Nat → Nat → Bool := fun r j => pthE r j && decide (max r j < v)
theorem pthTo_start {m : Nat} : matG m (pthTo 1) = List.replicate m [] := matG_none m fun r j _ _ => by unfold pthTo pthE; simp; omega
theorem pthTo_step {m v : Nat} (h1 : 1 ≤ v) (hv : v < m) : linkL (matG m (pthTo v)) (v - 1) v = matG m (pthTo (v + 1)) := by
  rw [link_matG (by omega) hv (by omega)]
  refine matG_congr fun r j hr hj => ?_
  unfold pthTo pthE
  rw [Bool.eq_iff_iff]
  simp
  omega
theorem pthTo_end {m : Nat} : matG m (pthTo m) = matG m pthE := matG_congr fun r j hr hj => by
  unfold pthTo
  simp [show max r j < m by omega]
theorem not_mem_matG {m : Nat} {E : Nat → Nat → Bool} {r k : Nat} (hr : r < m) (h : E r k = false) : (k : Int) ∉ row (matG m E) r := fun hm => by
  obtain ⟨j, e, _, hE⟩ := (mem_matG hr).1 hm
  obtain rfl : j = k := by omega
  rw [h] at hE
  exact absurd hE (by decide)

set_option maxRecDepth 100000 in
set_option maxHeartbeats 4000000 in
theorem l6Of_yes (z : Int) (n : Nat) (hz : z = n) (h1 : 1 ≤ n) (hn : n ≤ 16) (w : World) :
    Calls Tryd.prog 171 #[.int .i64 z] w fun e w' => ∃ u, e = .returned (.tuple #[u, .bool true]) ∧ DG w' w.heap.size u (List.replicate n []) ∧ Below w.heap.size w w' := by
  subst hz
  have HR := Lib.hid (Box.new w (.slice none 0 0) 28)
  have HB := Lib.hid (below_alloc w (.cells #[.slice none 0 0] 28))
  have HD := Lib.hid (dec_true (show (1 : Int) ≤ (n : Int) ∧ (n : Int) ≤ 16 from ⟨by omega, by omega⟩))
  go_enter Tryd.func171, Tryd.ntmps171
  go_wp2_with (first
    | (go_at_call 128; refine (l1EmptyD_any _ n rfl (by omega) _).mono ?_; rintro e w2 ⟨u, rfl, hs2, hb2⟩; obtain ⟨gp, gc, rfl⟩ := hs2.shape; rw [List.length_replicate] at hs2 ⊢; obtain ⟨nc, nf, nl, nB⟩ := HR.out.keep hb2)
    | (go_at_call 116; refine (l1In_any _ _ _ _).mono ?_; rintro e w1 ⟨he, rfl⟩; rw [HD.out] at he; subst he))
  refine bodyPost_ret (v := .tuple #[.agg #[.slice gp n gc], .bool true]) (by simp [results, Tryd.results171, go_sem, nc]) rfl ⟨_, rfl, ?_, ?_⟩
  · exact (hs2.setBox ⟨nc, nf, nl, nB⟩ _).base HB.out.size
  · exact (HB.out.trans (hb2.mono HB.out.size)).setCell (by show w.heap.size ≤ w.heap.size; omega) _

end Go.Proofs.YtiooindlpinjhaaDoor

/- Walks: the reference's draws: paths, loops, graphs by dice. -/
namespace Go.Proofs.YtiooindlpinjhaaDoor
open Go.RowKit

set_option maxRecDepth 100000 in
set_option maxHeartbeats 4000000 in
theorem specPath_yes (z : Int) (n : Nat) (hz : z = n) (h1 : 1 ≤ n) (hn : n ≤ 16) (w : World) :
    Calls Tryd.prog 168 #[.int .i64 z] w fun e w' => ∃ u, e = .returned (.tuple #[u, .bool true]) ∧ DG w' w.heap.size u (matG n pthE) ∧ Below w.heap.size w w' := by
  subst hz
  obtain ⟨w1, hw1⟩ : ∃ w1, w1 = w.alloc (.cells #[.slice none 0 0] 28) := ⟨_, rfl⟩
  have HR : Hid (Box w1 w.heap.size 28 (.slice none 0 0)) := Lib.hid (by rw [hw1]; exact Box.new _ _ _)
  have HB : Hid (Below w.heap.size w w1) := Lib.hid (by rw [hw1]; exact below_alloc _ _)
  have s1 : w1.heap.size = w.heap.size + 1 := by rw [hw1, size_alloc]
  go_enter Tryd.func168, Tryd.ntmps168
  go_upto_region 1 with fail
  rw [← hw1]
  clear hw1
  go_upto_region 2 with (go_at_call 171; refine (l6Of_yes _ n rfl h1 hn _).mono ?_; rintro e w2 ⟨u, rfl, hs2, hb2⟩; obtain ⟨p, c, rfl⟩ := hs2.shape; rw [List.length_replicate] at hs2 ⊢)
  have START : Hid (LdI w1 (w2.alloc (.cells #[.slice p n c] 28)) w1.heap.size w2.heap.size p c n (matG n (pthTo 1))) := Lib.hid
    ⟨by rw [pthTo_start]; exact hs2.below (below_alloc _ _), hb2.alloc hb2.size _, Box.new _ _ _, hs2.lt, Nat.le_refl _, hb2.size⟩
  generalize w2.heap.size = b5 at START
  clear hs2 hb2
  go_wp2
  go_loopw [6] (fun i wr => ∃ v : Nat, 1 ≤ v ∧ v ≤ n ∧ i = .int .i64 v ∧ Hid (LdI w1 wr w1.heap.size b5 p c n (matG n (pthTo v)))) (fun i _ => n - (intOf i).toNat)
  case atStart => exact ⟨1, Nat.le_refl _, h1, rfl, START⟩
  case round =>
    clear START
    obtain ⟨v, hv1, hvn, rfl, HI⟩ := hrel
    have cb := HI.out.box.cell
    have fb := HI.out.box.free
    by_cases hlt : v < n
    · have hwr : IntKind.i64.wrap ((v : Int) - 1) = (v : Int) - 1 := by rw [IntKind.wrap_i64]; omega
      have hlk := l1LinkD_any p c (matG n (pthTo v)) ((v : Int) - 1) v (v - 1) v w1.heap.size (by omega) rfl (by rw [matG_length]; omega) (by rw [matG_length]; omega) (by omega) (not_mem_matG (by omega) (by unfold pthTo; simp)) (not_mem_matG hlt (by unfold pthTo; simp)) (fun j _ => Nat.le_trans (matG_row_le j) (by omega)) wr (by rw [matG_length]; exact HI.out.dg)
      rw [matG_length, pthTo_step hv1 hlt] at hlk
      have HLK := Lib.hid hlk
      clear hlk
      go_wp2_with (go_at_call 106; refine HLK.out.mono ?_; rintro e w6 ⟨rfl, hs6, hg6⟩; have hbx := HI.out.box.grown hg6 (fun e => by have := (HI.out.own _ e.symm).2; omega); have hc6 := hbx.cell; have hf6 := hbx.free)
      go_roundw
      case rel => exact ⟨v + 1, by omega, by omega, by go_num, Lib.hid (HI.out.link hs6 hg6)⟩
      case measure => simp [intOf]; omega
    · obtain rfl : v = n := by omega
      have HR5 := HR.out.keep HI.out.bel
      obtain ⟨nc, nf, nl, nB⟩ := id HR5
      go_wp2
      refine bodyPost_ret (v := .tuple #[.agg #[.slice p v c], .bool true]) (by simp [results, Tryd.results168, go_sem, nc]) rfl ⟨_, rfl, ?_, ?_⟩
      · have := (HI.out.dg.setBox HR5 (.slice p v c)).base (base' := w.heap.size) (by omega)
        rw [pthTo_end] at this
        exact this
      · exact (HB.out.trans (HI.out.bel.mono HB.out.size)).setCell (by show w.heap.size ≤ w.heap.size; omega) _

def lopE (n : Nat) : Nat → Nat → Bool := fun r j => pthE r j || (r == 0 && j == n - 1) || (r == n - 1 && j == 0)
theorem lopE_symI {n : Nat} (hn : 3 ≤ n) : SymI (lopE n) := ⟨fun r j h => by unfold lopE pthE at *; simp at *; omega, fun r => by unfold lopE pthE; simp; omega⟩

set_option maxRecDepth 100000 in
set_option maxHeartbeats 4000000 in
theorem specLoop_yes (z : Int) (n : Nat) (hz : z = n) (h1 : 3 ≤ n) (hn : n ≤ 16) (w : World) :
    Calls Tryd.prog 167 #[.int .i64 z] w fun e w' => ∃ u, e = .returned (.tuple #[u, .bool true]) ∧ DG w' w.heap.size u (matG n (lopE n)) ∧ Below w.heap.size w w' := by
  subst hz
  obtain ⟨w1, hw1⟩ : ∃ w1, w1 = w.alloc (.cells #[.slice none 0 0] 28) := ⟨_, rfl⟩
  have HR : Hid (Box w1 w.heap.size 28 (.slice none 0 0)) := Lib.hid (by rw [hw1]; exact Box.new _ _ _)
  have HB : Hid (Below w.heap.size w w1) := Lib.hid (by rw [hw1]; exact below_alloc _ _)
  have s1 : w1.heap.size = w.heap.size + 1 := by rw [hw1, size_alloc]
  go_enter Tryd.func167, Tryd.ntmps167
  go_upto_region 1 with fail
  rw [← hw1]
  clear hw1
  go_upto_region 2 with (go_at_call 168; refine (specPath_yes _ n rfl (by omega) hn _).mono ?_; rintro e w2 ⟨u, rfl, hs2, hb2⟩; obtain ⟨p, c, rfl⟩ := hs2.shape; rw [matG_length] at hs2 ⊢)
  have HI : Hid (LdI w1 (w2.alloc (.cells #[.slice p n c] 28)) w1.heap.size w2.heap.size p c n (matG n pthE)) := Lib.hid
    ⟨hs2.below (below_alloc _ _), hb2.alloc hb2.size _, Box.new _ _ _, hs2.lt, Nat.le_refl _, hb2.size⟩
  obtain ⟨wr, hwr0⟩ : ∃ wr, wr = w2.alloc (.cells #[.slice p n c] 28) := ⟨_, rfl⟩
  rw [← hwr0] at HI ⊢
  generalize w2.heap.size = b5 at *
  clear hs2 hb2 hwr0
  have cb := HI.out.box.cell
  have fb := HI.out.box.free
  have hwr : IntKind.i64.wrap ((n : Int) - 1) = (n : Int) - 1 := by rw [IntKind.wrap_i64]; omega
  have hlk := l1LinkD_any p c (matG n pthE) 0 ((n : Int) - 1) 0 (n - 1) w1.heap.size rfl (by omega) (by rw [matG_length]; omega) (by rw [matG_length]; omega) (by omega) (not_mem_matG (by omega) (by unfold pthE; simp; omega)) (not_mem_matG (by omega) (by unfold pthE; simp; omega)) (fun j _ => Nat.le_trans (matG_row_le j) (by omega)) wr (by rw [matG_length]; exact HI.out.dg)
  rw [matG_length, link_matG (by omega) (by omega) (by omega)] at hlk
  have HLK := Lib.hid hlk
  clear hlk
  go_wp2_with (go_at_call 106; refine HLK.out.mono ?_; rintro e w6 ⟨rfl, hs6, hg6⟩; have HI6 := Lib.hid (HI.out.link hs6 hg6); have HR6 := Lib.hid ((HR.out.keep HI.out.bel).grown hg6 (fun e => by have := (HI.out.own _ e.symm).1; have := HI.out.hb; have := HB.out.size; omega)); have hcr := HR6.out.cell; have hfr := HR6.out.free)
  refine bodyPost_ret (v := .tuple #[.agg #[.slice p n c], .bool true]) (by simp [results, Tryd.results167, go_sem, hcr]) rfl ⟨_, rfl, ?_, ?_⟩
  · exact (hs6.setBox HR6.out _).base (by omega)
  · exact ((HB.out.trans (HI.out.bel.mono HB.out.size)).grown hg6 (Nat.le_trans HB.out.size HI.out.bel.size) (fun k hk => by have := (HI.out.own k hk).1; omega)).setCell (by show w.heap.size ≤ w.heap.size; omega) _

end Go.Proofs.YtiooindlpinjhaaDoor
