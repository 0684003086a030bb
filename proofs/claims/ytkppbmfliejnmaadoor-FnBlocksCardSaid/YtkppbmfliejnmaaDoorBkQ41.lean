/- Walk: a graph out of its edges (the reference's GraphOf), for the draws of the laws. -/
import Derived.Test.YtkppbmfliejnmaaDoorBkQ29
import Derived.Test.YtkppbmfliejnmaaDoorBkQ15
import Derived.Test.YtkppbmfliejnmaaDoorBkQ4
import Derived.Deep.RegionLaw
namespace Go.Proofs.YtkppbmfliejnmaaDoor
open Go.RowKit

def SymI (E : Nat → Nat → Bool) : Prop := (∀ r j, E r j = true → E j r = true) ∧ ∀ r, E r r = false
theorem symI_none : SymI fun _ _ => false := ⟨fun _ _ h => h, fun _ => rfl⟩
theorem symI_link {E : Nat → Nat → Bool} (h : SymI E) {u v : Nat} (huv : u ≠ v) : SymI fun r j => E r j || (r == u && j == v) || (r == v && j == u) := by
  refine ⟨fun r j hE => ?_, fun r => ?_⟩
  · simp only [Bool.or_eq_true, Bool.and_eq_true, beq_iff_eq] at hE ⊢
    rcases hE with (hE | ⟨h1, h2⟩) | ⟨h1, h2⟩
    · exact .inl (.inl (h.1 _ _ hE))
    · exact .inr ⟨h2, h1⟩
    · exact .inl (.inr ⟨h2, h1⟩)
  · have h1 : ¬ (r = u ∧ r = v) := fun ⟨a, b⟩ => huv (a ▸ b)
    have h2 : ¬ (r = v ∧ r = u) := fun ⟨a, b⟩ => huv (b ▸ a)
    simp only [h.2 r, Bool.false_or, Bool.or_eq_false_iff, Bool.and_eq_false_iff, beq_eq_false_iff_ne]
    refine ⟨?_, ?_⟩
    · by_cases e : r = u
      · exact .inr fun e2 => h1 ⟨e, e2⟩
      · exact .inl e
    · by_cases e : r = v
      · exact .inr fun e2 => h2 ⟨e, e2⟩
      · exact .inl e

structure GoI (w wr : World) (B b6 n : Nat) (gp : Option Addr) (gc : Nat) (Be : Nat) (ev : Value) (l : List (Nat × Nat)) (E : Nat → Nat → Bool) : Prop where
  sg : SG wr B (.agg #[.slice gp n gc]) (matG n E)
  res : Box wr w.heap.size 29 (.slice none 0 0)
  box : Box wr b6 29 (.slice gp n gc)
  prs : PrsO wr Be ev l
  bel : Below w.heap.size w wr
  own : ∀ b, (Value.slice gp n gc).ownBlock = some b → w.heap.size < b ∧ b < b6
  far : ∀ b, ev.ownBlock = some b → b < w.heap.size
  hB : w.heap.size < B
  h6 : w.heap.size < b6
theorem GoI.next {w wr wx : World} {B b6 n : Nat} {gp : Option Addr} {gc Be : Nat} {ev : Value} {l : List (Nat × Nat)} {E : Nat → Nat → Bool} (h : GoI w wr B b6 n gp gc Be ev l E) (hb : Below wr.heap.size wr wx) : GoI w wx B b6 n gp gc Be ev l E :=
  ⟨h.sg.below hb, h.res.keep hb, h.box.keep hb, h.prs.below hb, h.bel.trans (hb.mono h.bel.size), h.own, h.far, h.hB, h.h6⟩
theorem GoI.link {w wr w2 : World} {B b6 n : Nat} {gp : Option Addr} {gc Be : Nat} {ev : Value} {l : List (Nat × Nat)} {E E' : Nat → Nat → Bool} (h : GoI w wr B b6 n gp gc Be ev l E)
    (hs : SG w2 B (.agg #[.slice gp n gc]) (matG n E')) (hg : wr.grownBy w2 (Value.slice gp n gc).ownBlock) : GoI w (w2.setCell ⟨b6, 0, none⟩ (.slice gp n gc)) B b6 n gp gc Be ev l E' := by
  have hbox := h.box.grown hg (fun e => by have := (h.own _ e.symm).2; omega)
  have hres := h.res.grown hg (fun e => by have := (h.own _ e.symm).1; omega)
  have hsg := h.sg
  have hl := matG_length n E
  obtain ⟨u0, vals, e1, hv, ho, hr⟩ := hsg
  cases e1
  rw [hl] at hv ho hr
  have hprs := h.prs.keptO ho hg (fun b hb e => by have h1 := h.far b hb; have h2 := (h.own b e).1; omega)
  have h6 := h.h6
  have hbel : Below w.heap.size w w2 := ⟨hg.os.trans h.bel.os, hg.tape.trans h.bel.tape, hg.output.trans h.bel.output, Nat.le_trans h.bel.size hg.size, fun k hk => (hg.block k (Nat.lt_of_lt_of_le hk h.bel.size) (fun e => by have := (h.own k e.symm).1; omega)).trans (h.bel.block k hk)⟩
  refine ⟨hs.setBox hbox _, hres.setOther (by show w.heap.size ≠ b6; omega) _, hbox.set _, ?_, hbel.setCell (p := ⟨b6, 0, none⟩) (Nat.le_of_lt h6) _, h.own, h.far, h.hB, h6⟩
  obtain ⟨vals2, q1, q2, q3⟩ := hprs
  exact ⟨vals2, q1, ownsRow_setBox q2 hbox (by decide) _, fun j hj => (q3 j hj).setBox hbox (by decide) _⟩

set_option maxRecDepth 100000 in
set_option maxHeartbeats 4000000 in
theorem specGraphOf_any (ev : Value) (z : Int) (n Be : Nat) (l : List (Nat × Nat)) (hz : z = n) (hn1 : 1 ≤ n) (hn16 : n ≤ 16) (hl : ∀ e ∈ l, e.1 < e.2 ∧ e.2 < n) (h120 : l.length ≤ 120) (w : World) (hp : PrsO w Be ev l) :
    Calls Tryd.prog 85 #[.int .i64 z, ev] w fun e w' => ∃ (u : Value) (E : Nat → Nat → Bool), e = .returned (.tuple #[u, .bool true]) ∧ SymI E ∧ SG w' w.heap.size u (matG n E) ∧ Below w.heap.size w w' := by
  subst hz
  obtain ⟨ep, ec, rfl⟩ := hp.shape
  have HP := Lib.hid hp
  have HL := Lib.hid hl
  have hd1 : dec ((1 : Int) ≤ (n : Int) ∧ (n : Int) ≤ 16) = true := dec_true ⟨by omega, by omega⟩
  have HD1 := Lib.hid hd1
  have HR := Lib.hid (Box.new w (.slice none 0 0) 29)
  have HB1 := Lib.hid (below_alloc w (.cells #[.slice none 0 0] 29))
  have HFAR : Hid (∀ b, (Value.slice ep l.length ec).ownBlock = some b → b < w.heap.size) := Lib.hid (fun b hb => by
    obtain ⟨vals, _, h2, _⟩ := hp
    exact (h2.lt b hb).2)
  clear hp hl hd1
  go_enter Tryd.func85, Tryd.ntmps85
  go_upto_region 4 with (first
    | (go_at_call 157; refine (l1Empty_any _ n rfl (by omega) _).mono ?_; rintro e w2 ⟨u, rfl, hs2, hb2⟩; obtain ⟨gp, gc, rfl⟩ := hs2.shape; rw [List.length_replicate] at hs2 ⊢)
    | (go_at_call 153; refine (l1In_any _ _ _ _).mono ?_; rintro e w1 ⟨he, rfl⟩; rw [HD1.out] at he; subst he))
  have hempty : matG n (fun _ _ => false) = List.replicate n [] := matG_none n fun _ _ _ _ => rfl
  rw [← hempty] at hs2
  obtain ⟨w3, hw3⟩ : ∃ w3, w3 = w2.alloc (.cells #[.slice gp n gc] 29) := ⟨_, rfl⟩
  rw [← hw3]
  have hb23 : Below w2.heap.size w2 w3 := by rw [hw3]; exact below_alloc _ _
  have s1 : (w.alloc (.cells #[.slice none 0 0] 29)).heap.size = w.heap.size + 1 := size_alloc _ _
  have s2 := hb2.size
  have START : Hid (GoI w w3 (w.heap.size + 1) w2.heap.size n gp gc Be (.slice ep l.length ec) l (fun _ _ => false)) := Lib.hid
    { sg := by rw [← s1]; exact hs2.below hb23
      res := (HR.out.keep hb2).keep hb23
      box := by rw [hw3]; exact Box.new _ _ _
      prs := ((HP.out.below HB1.out).below hb2).below hb23
      bel := (HB1.out.trans (hb2.mono HB1.out.size)).trans (hb23.mono (Nat.le_trans HB1.out.size s2))
      own := fun b hb => by
        obtain ⟨u0, vals, e1, hv, ho, hr⟩ := hs2
        cases e1
        have := ho.lt b hb
        omega
      far := HFAR.out
      hB := Nat.lt_succ_self _
      h6 := by omega }
  generalize w2.heap.size = b6 at START
  clear hb2 hs2 hw3 hb23 s1 s2 hempty HR HB1 HP
  go_upto_region 4 with fail
  go_wp2
  go_loopw [7] (fun i wr => ∃ (t : Nat) (E : Nat → Nat → Bool), i = .int .i64 t ∧ t ≤ l.length ∧ Hid (SymI E) ∧ Hid (GoI w wr (w.heap.size + 1) b6 n gp gc Be (.slice ep l.length ec) l E)) (fun i _ => l.length - (intOf i).toNat)
  case atStart => exact ⟨0, _, rfl, Nat.zero_le _, Lib.hid symI_none, START⟩
  case round =>
    clear START
    obtain ⟨t, E, rfl, ht, HSE, HG⟩ := hrel
    by_cases hlt : t < l.length
    · obtain ⟨eb, eo, rp, rc, he, hce, hne⟩ := HG.out.prs.get hlt
      subst he
      have hmem := HL.out _ (List.getElem_mem hlt)
      obtain ⟨⟨a, b⟩, hab⟩ : ∃ e : Nat × Nat, e = l[t] := ⟨_, rfl⟩
      rw [← hab] at hmem hne
      obtain ⟨hlt1, hlt2⟩ := hmem
      simp only at hlt1 hlt2 hne
      have HNE := Lib.hid hne
      have hset : SetIn (n : Int) [(a : Int), (b : Int)] := ⟨fun x hx => by
        simp only [List.mem_cons, List.not_mem_nil, or_false] at hx
        rcases hx with rfl | rfl <;> omega, by simp; omega⟩
      have HSD := Lib.hid (dec_true hset)
      clear hne hab hset
      go_upto_region 9 with (go_at_call 169; refine (l1Set_any _ [(a : Int), (b : Int)] n (by omega) (by omega) _ HNE.out).mono ?_; rintro e w5 ⟨he, hb5⟩; rw [HSD.out] at he; subst he)
      have HG5 := Lib.hid (HG.out.next hb5)
      have hce5 := hb5.at' hce
      have hne5 := HNE.out.below hb5
      obtain ⟨rb, ro, rfl, hc0⟩ := hne5.get (k := 0) (by simp)
      obtain ⟨_, _, e1, hc1⟩ := hne5.get (k := 1) (by simp)
      cases e1
      simp only [List.getElem_cons_zero, List.getElem_cons_succ, Nat.add_zero] at hc0 hc1
      have huv : a ≠ b := by omega
      have hlk : ∀ wz, wz = w5.drew → Calls Tryd.prog 154 #[.agg #[.slice gp n gc], .int .i64 (a : Int), .int .i64 (b : Int)] wz fun e w' => e = .returned (.agg #[.slice gp n gc]) ∧ SG w' (w.heap.size + 1) (.agg #[.slice gp n gc]) (matG n (fun r j => E r j || (r == a && j == b) || (r == b && j == a))) ∧ wz.grownBy w' (Value.slice gp n gc).ownBlock := by
        rintro wz rfl
        have hml := matG_length n E
        have := l1Link_any gp gc (matG n E) a b a b (w.heap.size + 1) rfl rfl (by rw [hml]; omega) (by rw [hml]; omega) (fun j _ => Nat.le_trans (matG_row_le j) (by omega)) w5.drew (by rw [hml]; exact HG5.out.sg.below (below_dN (Below.refl _ _) 1))
        rw [hml, link_matG (by omega) hlt2 huv] at this
        exact this
      have Hlk := Lib.hid hlk
      have hb6c := HG5.out.box.cell
      have hb6f := HG5.out.box.free
      have HSN := Lib.hid (symI_link HSE.out huv)
      clear hlk hne5 hb5 hce
      go_region_law (first | (go_simp; go_at_call 154; refine (Hlk.out _ rfl).mono ?_; rintro e w6 ⟨rfl, hs6, hg6⟩; have hg6' : w5.grownBy w6 (Value.slice gp n gc).ownBlock := ⟨hg6.os, (hg6.tape).trans rfl, hg6.output, hg6.size, hg6.block⟩; have hbx := HG5.out.box.grown hg6' (fun e => by have := (HG5.out.own _ e.symm).2; omega); have hc6 := hbx.cell; have hf6 := hbx.free))
      all_goals go_wp2
      all_goals go_roundw
      all_goals first
        | exact ⟨t + 1, _, by go_num, by omega, HSN, Lib.hid (HG5.out.link hs6 hg6')⟩
        | (simp [intOf]; omega)
    · obtain rfl : t = l.length := by omega
      have hb6c := HG.out.box.cell
      obtain ⟨nc, nf, _, _⟩ := HG.out.res
      go_wp2
      refine bodyPost_ret (v := .tuple #[.agg #[.slice gp n gc], .bool true]) (by simp [results, Tryd.results85, go_sem, nc]) rfl ⟨_, E, rfl, HSE.out, SG.base (HG.out.sg.setBox HG.out.res _) (Nat.le_succ _), ?_⟩
      exact HG.out.bel.setCell (p := ⟨w.heap.size, 0, none⟩) (Nat.le_refl _) _

end Go.Proofs.YtkppbmfliejnmaaDoor
