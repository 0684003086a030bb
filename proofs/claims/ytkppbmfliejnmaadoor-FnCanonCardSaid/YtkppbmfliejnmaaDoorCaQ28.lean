/- Walk: the program's test of a small graph. -/
import Derived.Test.YtkppbmfliejnmaaDoorCaQ4
import Derived.Test.YtkppbmfliejnmaaDoorCaQ27
import Derived.Test.YtkppbmfliejnmaaDoorCaQ21
namespace Go.Proofs.YtkppbmfliejnmaaDoor
open Go.RowKit

set_option maxRecDepth 100000 in
set_option maxHeartbeats 1000000 in
theorem isSmall_any (v : Value) (g : List (List Int)) (w : World) (hg : Gr w v g) :
    Calls Tryd.prog 123 #[v] w fun e w' => e = .returned (.bool (dec (GOk g ∧ g.length ≤ 8))) ∧ Below w.heap.size w w' := by
  have hg0 := hg
  obtain ⟨u, rfl, hr⟩ := hg
  obtain ⟨p, c, rfl, _, _, _⟩ := hr.shape
  have hbA := Lib.hid (below_alloc w (.cells #[.slice p g.length c] 29))
  have HG := Lib.hid (hg0.below hbA.out)
  have BX := Lib.hid (Box.new w (.slice p g.length c) 29)
  clear hr hg0
  by_cases hok : GOk g
  · have hd := dec_true hok
    have Hok := Lib.hid hok
    clear hok
    have H : dec (GOk g ∧ g.length ≤ 8) = decide (g.length ≤ 8) := by
      by_cases h : g.length ≤ 8
      · rw [dec_true (show GOk g ∧ g.length ≤ 8 from ⟨Hok.out, h⟩)]; simp [h]
      · rw [dec_false (show ¬ (GOk g ∧ g.length ≤ 8) from fun k => h k.2)]; simp [h]
    have HH := Lib.hid H
    clear H
    go_enter Tryd.func123, Tryd.ntmps123
    go_wp2_with (go_at_call 87; refine (implGraphOk_any _ g _ HG.out).mono ?_; rintro e w2 ⟨he, hb2⟩; rw [hd] at he; subst he; have hbx := (BX.out.keep hb2).cell)
    go_ret
    exact ⟨by rw [HH.out]; exact ret_bool (by simp; omega), hbA.out.trans (hb2.mono hbA.out.size)⟩
  · have hd := dec_false hok
    have HH := Lib.hid (dec_false (show ¬ (GOk g ∧ g.length ≤ 8) from fun k => hok k.1))
    clear hok
    go_enter Tryd.func123, Tryd.ntmps123
    go_wp2_with (go_at_call 87; refine (implGraphOk_any _ g _ HG.out).mono ?_; rintro e w2 ⟨he, hb2⟩; rw [hd] at he; subst he)
    go_ret
    exact ⟨by rw [HH.out]; rfl, hbA.out.trans (hb2.mono hbA.out.size)⟩

end Go.Proofs.YtkppbmfliejnmaaDoor

/- Walks: the program's first map that fits; are two graphs alike? -/
namespace Go.Proofs.YtkppbmfliejnmaaDoor
open Go.RowKit

set_option maxRecDepth 100000 in
set_option maxHeartbeats 4000000 in
theorem firstFit_any (hp pp : Option Addr) (hc pc n m : Nat) (E F : Nat → Nat → Bool) (hm0 : 0 < m) (w : World) (hH : NE w (.slice hp n hc) n E) (hP : NE w (.slice pp m pc) m F) :
    Calls Tryd.prog 124 #[.slice hp n hc, .slice pp m pc] w fun e w' => ∃ fv, e = .returned fv ∧ FndV w' w.heap.size (fitF n E F m []) fv ∧ Below w.heap.size w w' := by
  obtain ⟨W0, hW0⟩ : ∃ W0, W0 = (w.alloc (.cells #[.slice none 0 0] 93)).alloc (.cells #[.slice hp n hc, .slice pp m pc, .slice none 0 0, .int .u32 0, .func (.func 195) #[] #[.pointer (some ⟨w.heap.size, 0, none⟩)]] 150) := ⟨_, rfl⟩
  have HI : Hid (FiI w W0 (.slice hp n hc) (.slice pp m pc) [] 0 (.slice none 0 0) none (.slice none 0 0)) := Lib.hid (by
    have h1 := FS.new (w.alloc (.cells #[.slice none 0 0] 93)) (v0 := .slice hp n hc) (v1 := .slice pp m pc) (v2 := .slice none 0 0) (v3 := .int .u32 0) (v4 := .func (.func 195) #[] #[.pointer (some ⟨w.heap.size, 0, none⟩)])
    rw [size_alloc] at h1
    refine ⟨by rw [hW0]; exact below_alloc2 _ _ _, by rw [hW0]; exact h1, World.ownsRow_nil _ _ _ _, by rw [hW0]; exact (Box.new _ _ _).alloc _, rfl⟩)
  have GROW := Lib.hid (fitGrow_any w hp pp hc pc n m E F hm0 hH hP m [] 0 (.slice none 0 0) (.slice none 0 0) W0 rfl (fun x hx => (by cases hx)) (by simp) HI.out)
  clear hH hP
  go_enter Tryd.func124, Tryd.ntmps124
  go_upto_region 3 with fail
  rw [← hW0]
  clear hW0
  go_wp2_with (go_at_call 197; refine GROW.out.mono ?_; rintro e w2 ⟨rfl, ov2, fv2, hI2⟩; have HI2 := Lib.hid hI2; have hbx := hI2.box.cell; clear hI2)
  go_ret
  exact ⟨_, rfl, HI2.out.fnd, HI2.out.bel⟩

theorem neOfF {g : List (List Int)} (hok : GOk g) {w : World} {base : Nat} {x : Value} (h : w.ownsRow base 70 1 x g.length ((netL g).map u32v)) : NE w x g.length (ofG g) :=
  ⟨hok.le, by rw [indN_ofG hok]; exact Sl.of_owns h (by have := hok.le; omega)⟩
/-- What AlikeIn answers. -/
def AlkS (g h : List (List Int)) (l : List Int) (ok : Bool) : Prop :=
  (ok = true ∧ GOk g ∧ GOk h ∧ g.length ≤ 8 ∧ g.length = h.length ∧ ∃ o, fitF g.length (ofG g) (ofG h) h.length [] = some o ∧ l = natInts o) ∨
    (ok = false ∧ l = [] ∧ ¬ (GOk g ∧ GOk h ∧ g.length ≤ 8 ∧ g.length = h.length ∧ ∃ o, fitF g.length (ofG g) (ofG h) h.length [] = some o))
theorem alkS_det {g h : List (List Int)} {l l2 : List Int} {ok ok2 : Bool} (h1 : AlkS g h l ok) (h2 : AlkS g h l2 ok2) : l = l2 ∧ ok = ok2 := by
  rcases h1 with ⟨rfl, a1, a2, a3, a4, o, a5, rfl⟩ | ⟨rfl, rfl, a1⟩ <;> rcases h2 with ⟨rfl, b1, b2, b3, b4, o2, b5, rfl⟩ | ⟨rfl, rfl, b1⟩
  · rw [a5] at b5; cases b5; exact ⟨rfl, rfl⟩
  · exact absurd ⟨a1, a2, a3, a4, o, a5⟩ b1
  · exact absurd ⟨b1, b2, b3, b4, o2, b5⟩ a1
  · exact ⟨rfl, rfl⟩

set_option maxRecDepth 100000 in
set_option maxHeartbeats 4000000 in
theorem implAlikeIn_any (v z : Value) (g h : List (List Int)) (w : World) (hg : Gr w v g) (hh : Gr w z h) (_hT : Tab w) :
    Calls Tryd.prog 42 #[v, z] w fun e w' => ∃ (u : Value) (l : List Int) (ok : Bool), e = .returned (.tuple #[u, .bool ok]) ∧ AlkS g h l ok ∧ Nums w' 2 .i64 u l ∧ Below w.heap.size w w' := by
  have hg0 := hg
  have hh0 := hh
  obtain ⟨u, rfl, hr⟩ := hg
  obtain ⟨gp, gc, rfl, _⟩ := hr.shape
  obtain ⟨u', rfl, hr'⟩ := hh
  obtain ⟨hp, hc, rfl, _⟩ := hr'.shape
  obtain ⟨W0, hW0, hbA, SZ0, B0, B1⟩ := two_boxesC w (.slice gp g.length gc) (.slice hp h.length hc) 29 29
  have HBA := Lib.hid hbA
  have HG := Lib.hid (hg0.below hbA)
  have HH := Lib.hid (hh0.below hbA)
  have HX0 := Lib.hid B0
  have HX1 := Lib.hid B1
  have NILN : Hid (∀ wz, Nums wz 2 .i64 (.slice none 0 0) []) := Lib.hid (fun wz => Sl.nothing _ _ _ _ (fun _ => rfl))
  clear hr hr' hg0 hh0 hbA B0 B1 SZ0
  by_cases hsg : GOk g ∧ g.length ≤ 8
  case neg =>
    have HD := Lib.hid (dec_false hsg)
    have HNO : Hid (AlkS g h [] false) := Lib.hid (.inr ⟨rfl, rfl, fun k => hsg ⟨k.1, k.2.2.1⟩⟩)
    clear hsg
    go_enter Tryd.func42, Tryd.ntmps42
    go_upto_region 1 with fail
    rw [← hW0]
    clear hW0
    have c0 := HX0.out.cell
    go_wp2_with (go_at_call 123; refine (isSmall_any _ g _ HG.out).mono ?_; rintro e w2 ⟨he, hb2⟩; rw [HD.out] at he; subst he)
    go_ret2
    exact ⟨_, _, _, rfl, HNO.out, NILN.out _, HBA.out.trans (hb2.mono HBA.out.size)⟩
  have HDG := Lib.hid (dec_true hsg)
  by_cases hsh : GOk h ∧ h.length ≤ 8
  case neg =>
    have HD := Lib.hid (dec_false hsh)
    have HNO : Hid (AlkS g h [] false) := Lib.hid (.inr ⟨rfl, rfl, fun k => hsh ⟨k.2.1, by have := k.2.2.1; have := k.2.2.2.1; omega⟩⟩)
    clear hsg hsh
    go_enter Tryd.func42, Tryd.ntmps42
    go_upto_region 1 with fail
    rw [← hW0]
    clear hW0
    have c0 := HX0.out.cell
    have c1 := HX1.out.cell
    go_wp2_with (first
      | (have X2 := hb2; go_at_call 123; refine (isSmall_any _ h _ (HH.out.below X2)).mono ?_; rintro e w3 ⟨he, hb3⟩; rw [HD.out] at he; subst he)
      | (go_at_call 123; refine (isSmall_any _ g _ HG.out).mono ?_; rintro e w2 ⟨he, hb2⟩; rw [HDG.out] at he; subst he; have d1 := hb2.at' c1))
    go_ret2
    exact ⟨_, _, _, rfl, HNO.out, NILN.out _, (HBA.out.trans (hb2.mono HBA.out.size)).trans (hb3.mono (Nat.le_trans HBA.out.size hb2.size))⟩
  have HDH := Lib.hid (dec_true hsh)
  by_cases hlen : g.length = h.length
  case neg =>
    have hne : ((g.length : Int) != (h.length : Int)) = true := bne_iff_ne.2 (by omega)
    have HNO : Hid (AlkS g h [] false) := Lib.hid (.inr ⟨rfl, rfl, fun k => hlen k.2.2.2.1⟩)
    clear hsg hsh hlen
    go_enter Tryd.func42, Tryd.ntmps42
    go_upto_region 1 with fail
    rw [← hW0]
    clear hW0
    have c0 := HX0.out.cell
    have c1 := HX1.out.cell
    go_wp2_with (first
      | (have X2 := hb2; go_at_call 123; refine (isSmall_any _ h _ (HH.out.below X2)).mono ?_; rintro e w3 ⟨he, hb3⟩; rw [HDH.out] at he; subst he; have e0 := hb3.at' d0; have e1 := hb3.at' d1)
      | (go_at_call 123; refine (isSmall_any _ g _ HG.out).mono ?_; rintro e w2 ⟨he, hb2⟩; rw [HDG.out] at he; subst he; have d0 := hb2.at' c0; have d1 := hb2.at' c1))
    go_ret2
    exact ⟨_, _, _, rfl, HNO.out, NILN.out _, (HBA.out.trans (hb2.mono HBA.out.size)).trans (hb3.mono (Nat.le_trans HBA.out.size hb2.size))⟩
  have hne : ((g.length : Int) != (h.length : Int)) = false := by rw [hlen]; simp
  have h8 := hsg.2
  have h16 := hsg.1.le
  have HOG := Lib.hid hsg.1
  have HOH := Lib.hid hsh.1
  have HLEN := Lib.hid hlen
  have hpos := hsh.1.pos
  have hgpos := hsg.1.pos
  have h8h := hsh.2
  obtain ⟨res, hres⟩ : ∃ res, res = fitF g.length (ofG g) (ofG h) h.length [] := ⟨_, rfl⟩
  have HRES := Lib.hid hres
  have FF : Hid (∀ wz (xp yp : Option Addr) (xc yc : Nat), NE wz (.slice xp g.length xc) g.length (ofG g) → NE wz (.slice yp h.length yc) h.length (ofG h) → Calls Tryd.prog 124 #[.slice xp g.length xc, .slice yp h.length yc] wz fun e w' => ∃ fv, e = .returned fv ∧ FndV w' wz.heap.size res fv ∧ Below wz.heap.size wz w') := Lib.hid (fun wz xp yp xc yc hx hy => by
    rw [hres]
    exact firstFit_any xp yp xc yc g.length h.length (ofG g) (ofG h) hpos wz hx hy)
  clear hsg hsh hlen hres
  go_enter Tryd.func42, Tryd.ntmps42
  go_upto_region 1 with fail
  rw [← hW0]
  clear hW0
  have c0 := HX0.out.cell
  have c1 := HX1.out.cell
  go_upto_region 3 with (first
    | (have X2 := hb2; go_at_call 123; refine (isSmall_any _ h _ (HH.out.below X2)).mono ?_; rintro e w3 ⟨he, hb3⟩; rw [HDH.out] at he; subst he; have e0 := hb3.at' d0; have e1 := hb3.at' d1)
    | (go_at_call 123; refine (isSmall_any _ g _ HG.out).mono ?_; rintro e w2 ⟨he, hb2⟩; rw [HDG.out] at he; subst he; have d0 := hb2.at' c0; have d1 := hb2.at' c1))
  have HB3 := Lib.hid (hb2.trans (hb3.mono hb2.size))
  have HG3 := Lib.hid (HG.out.below HB3.out)
  have HH3 := Lib.hid (HH.out.below HB3.out)
  have HW3 := Lib.hid (HBA.out.trans (HB3.out.mono HBA.out.size))
  clear hb2 hb3 c0 c1 d0 d1 hne
  go_cut [6] (fun s wx => ∃ B, FndV wx B res s ∧ Below w3.heap.size w3 wx)
  case first =>
    go_region_held3 (fun w' => w'.cell? ⟨w.heap.size, 0, none⟩ = some (.slice gp g.length gc) ∧ w'.cell? ⟨w.heap.size + 1, 0, none⟩ = some (.slice hp h.length hc))
      (first | exact ⟨e0, e1⟩ | go_keep | exact ⟨BWC.at' e0, BWC.at' e1⟩ | exact ⟨BWB.at' e0, BWB.at' e1⟩ | exact ⟨BWA.at' e0, BWA.at' e1⟩)
      (first
        | (go_at_call 124; refine (FF.out _ _ _ _ _ (HNA.out.next HBAB.out) HNB.out).mono ?_; rintro e wc ⟨fv, rfl, hfv, hbq⟩; have HFV := Lib.hid hfv; have BWC : Below w3.heap.size w3 wc := BWB.trans (hbq.mono BWB.size); clear hbq hfv)
        | (have XA := BWA; go_at_call 89; refine (netsOf_any _ h _ (HH3.out.below XA) HOH.out).mono ?_; rintro e wb ⟨y, rfl, ho, hbq⟩; have HNB := Lib.hid (neOfF HOH.out ho); obtain ⟨yp, yc, rfl, _⟩ := owns_capL ho; have HBAB := Lib.hid hbq; have BWB : Below w3.heap.size w3 wb := BWA.trans (hbq.mono BWA.size); clear hbq ho)
        | (go_at_call 89; refine (netsOf_any _ g _ (HG3.out.below (below_dN (Below.refl _ _) 1)) HOG.out).mono ?_; rintro e wa ⟨x, rfl, ho, hbq⟩; have HNA := Lib.hid (neOfF HOG.out ho); obtain ⟨xp, xc, rfl, _⟩ := owns_capL ho; have BWA : Below w3.heap.size w3 wa := (below_dN (Below.refl _ _) 1).trans hbq; clear hbq ho))
    all_goals go_wp2
    all_goals go_meet
    all_goals exact ⟨_, HFV.out, BWC⟩
  case rest =>
  obtain ⟨B, hfv, hb4⟩ := hcut
  rename_i w4
  have HB4 := Lib.hid (HW3.out.trans (hb4.mono HW3.out.size))
  have HFV := Lib.hid hfv
  clear hfv hb4 e0 e1
  cases res
  · have hv := HFV.out
    change _ = Value.slice none 0 0 at hv
    subst hv
    have hnl : ∀ w, Sem.run Tryd.prog (binOp BinOp.eql 93 (.slice none 0 0) (.slice none 0 0)) w = .ok (.bool true) w := fun w => rfl
    have HNO : Hid (AlkS g h [] false) := Lib.hid (.inr ⟨rfl, rfl, fun k => by
      obtain ⟨_, _, _, _, o, ho⟩ := k
      rw [← HRES.out] at ho
      cases ho⟩)
    go_wp2_with fail
    go_ret2
    exact ⟨_, _, _, rfl, HNO.out, NILN.out _, HB4.out⟩
  · rename_i o
    have ho := HFV.out
    change World.ownsRow _ _ _ _ _ _ _ at ho
    have hol : 0 < o.length ∧ o.length ≤ 8 := by
      obtain ⟨u, h1, h2, _⟩ := fitF_some _ _ _ HRES.out.symm
      rw [h1]
      simp only [List.nil_append]
      omega
    obtain ⟨ob, oc, e1, _⟩ := owns_some ho hol.1
    subst e1
    have hnl : ∀ w, Sem.run Tryd.prog (binOp BinOp.eql 93 (.slice (some ⟨ob, 0, none⟩) o.length oc) (.slice none 0 0)) w = .ok (.bool false) w := fun w => rfl
    have HNU := Lib.hid (Nums.of_owns ho (natInts_length o).symm (by omega))
    have HYES : Hid (AlkS g h (natInts o) true) := Lib.hid (.inl ⟨rfl, HOG.out, HOH.out, h8, HLEN.out, o, HRES.out.symm, rfl⟩)
    clear ho
    go_wp2_with (go_at_call 125; refine (wide_any _ _ _ HNU.out).mono ?_; rintro e w5 ⟨r, rfl, ho5, hb5⟩)
    go_ret2
    exact ⟨_, _, _, rfl, HYES.out, Nums.of_owns ho5 rfl (by rw [natInts_length]; omega), HB4.out.trans (hb5.mono HB4.out.size)⟩

end Go.Proofs.YtkppbmfliejnmaaDoor
