/- Walk: are two graphs alike, by the reference (printed by wip/mkCa.py). -/
import Derived.Test.YtkppbmfliejnmaaDoorMcQ25
import Derived.Test.YtkppbmfliejnmaaDoorMcQ23
import Derived.Test.YtkppbmfliejnmaaDoorMcQ18
import Derived.Test.YtkppbmfliejnmaaDoorMcQ7
namespace Go.Proofs.YtkppbmfliejnmaaDoor
open Go.RowKit

theorem embE_ofG {g : List (List Int)} (h : GOk g) : embE g = ofG g := by
  funext v u
  show ofG g u v = ofG g v u
  cases h1 : ofG g u v
  · cases h2 : ofG g v u
    · rfl
    · rw [ofG_sym h _ _ h2] at h1; cases h1
  · rw [ofG_sym h _ _ h1]

set_option maxRecDepth 100000 in
set_option maxHeartbeats 4000000 in
theorem specAlikeIn_any (v z : Value) (g h : List (List Int)) (w : World) (hg : Gr w v g) (hh : Gr w z h) :
    Calls Tryd.prog 45 #[v, z] w fun e w' => ∃ (u : Value) (l : List Int) (ok : Bool), e = .returned (.tuple #[u, .bool ok]) ∧ AlkS g h l ok ∧ Nums w' 2 .i64 u l ∧ Below w.heap.size w w' := by
  have hg0 := hg
  have hh0 := hh
  obtain ⟨u, rfl, hr⟩ := hg
  obtain ⟨gp, gc, rfl, _⟩ := hr.shape
  obtain ⟨u', rfl, hr'⟩ := hh
  obtain ⟨hp, hc, rfl, _⟩ := hr'.shape
  obtain ⟨W0, hW0, hbA, SZ0, B0, B1⟩ := two_boxesC w (.slice gp g.length gc) (.slice hp h.length hc) 29 29
  have HBA := Lib.hid hbA
  have HG := Lib.hid (hg0.below hbA)
  have HH := Lib.hid (hh0.below hbA)
  have HX0 := Lib.hid B0
  have HX1 := Lib.hid B1
  have NILM : Hid (∀ (wz : World), Nums (wz.alloc (.cells #[] 2)) 2 .i64 (.slice (some ⟨wz.heap.size, 0, none⟩) 0 0) []) := Lib.hid (fun wz => Sl.nothing _ _ _ _ (by simp))
  have OUT : Hid (∀ wz, Below W0.heap.size W0 wz → Below w.heap.size w (wz.alloc (.cells #[] 2))) := Lib.hid (fun wz hz => (HBA.out.trans (hz.mono HBA.out.size)).alloc (Nat.le_trans HBA.out.size hz.size) _)
  clear hr hr' hg0 hh0 hbA B0 B1 SZ0
  have c0 := HX0.out.cell
  have c1 := HX1.out.cell
  by_cases hsg : GOk g ∧ g.length ≤ 8
  case neg =>
    have HD := Lib.hid (dec_false hsg)
    have HNO : Hid (AlkS g h [] false) := Lib.hid (.inr ⟨rfl, rfl, fun k => hsg ⟨k.1, k.2.2.1⟩⟩)
    clear hsg
    go_enter Tryd.func45, Tryd.ntmps45
    go_upto_region 1 with fail
    rw [← hW0]
    clear hW0
    refine wp_region_held_drew (S := (fun w' => w'.cell? ⟨w.heap.size, 0, none⟩ = some (.slice gp g.length gc) ∧ w'.cell? ⟨w.heap.size + 1, 0, none⟩ = some (.slice hp h.length hc))) (by kernel_rfl) ?_ (fun hHeld => ?_)
    · exact ⟨c0, c1⟩
    refine wpAnyH_take (i := 0) (v := .agg #[.slice gp g.length gc]) rfl (by kernel_rfl) (by kernel_rfl) (by kernel_rfl) (fun _ _ _ h => h) (Or.inl ⟨by rfl, ?_⟩) (by assumption) ?_
    · intro wz hSw; (try dsimp only at hSw); go_simp; try rfl
    try simp only [Act.put, List.getElem_toArray, List.getElem_cons_succ, List.getElem_cons_zero, List.setIfInBounds_toArray, List.set_cons_zero, List.set_cons_succ]
    refine wpAnyH_ready (rs := [1]) (by kernel_rfl) (by simp) ?_
    refine AllReadyH.cons rfl (fun K hK => ?_) AllReadyH.nil
    go_simp
    go_at_call 131
    refine (l4Small_any _ g _ (by first | exact HG.out | exact HG.out.below (below_dN (Below.refl _ _) 1))).mono ?_
    rintro e w2 ⟨he, hb⟩
    rw [HD.out] at he
    subst he
    have hb2 : Below W0.heap.size W0 w2 := (by first | exact hb | exact (below_dN (Below.refl _ _) 1).trans hb)
    clear hb
    refine hK.out _ _ ?_ (fun hHeld => ?_)
    · exact ⟨hb2.at' c0, hb2.at' c1⟩
    clear hK K
    try simp only [Act.put, List.getElem_toArray, List.getElem_cons_succ, List.getElem_cons_zero, List.setIfInBounds_toArray, List.set_cons_zero, List.set_cons_succ]
    refine wpAnyH_take (i := 2) (v := .bool true) rfl (by kernel_rfl) (by kernel_rfl) (by kernel_rfl) (fun _ _ _ h => h) (Or.inl ⟨by rfl, ?_⟩) (by assumption) ?_
    · intro wz hSw; (try dsimp only at hSw); go_simp; try rfl
    try simp only [Act.put, List.getElem_toArray, List.getElem_cons_succ, List.getElem_cons_zero, List.setIfInBounds_toArray, List.set_cons_zero, List.set_cons_succ]
    refine wpAnyH_take (i := 3) (v := .bool true) rfl (by kernel_rfl) (by kernel_rfl) (by kernel_rfl) (fun _ _ _ h => h) (Or.inl ⟨by rfl, ?_⟩) (by assumption) ?_
    · intro wz hSw; (try dsimp only at hSw); go_simp; try rfl
    try simp only [Act.put, List.getElem_toArray, List.getElem_cons_succ, List.getElem_cons_zero, List.setIfInBounds_toArray, List.set_cons_zero, List.set_cons_succ]
    refine wpAnyH_take (i := 4) (v := undef) rfl (by kernel_rfl) (by kernel_rfl) (by kernel_rfl) (fun _ _ _ h => h) (Or.inr ⟨by kernel_rfl, rfl⟩) (by assumption) ?_
    try simp only [Act.put, List.getElem_toArray, List.getElem_cons_succ, List.getElem_cons_zero, List.setIfInBounds_toArray, List.set_cons_zero, List.set_cons_succ]
    refine wpAnyH_take (i := 5) (v := undef) rfl (by kernel_rfl) (by kernel_rfl) (by kernel_rfl) (fun _ _ _ h => h) (Or.inr ⟨by kernel_rfl, rfl⟩) (by assumption) ?_
    try simp only [Act.put, List.getElem_toArray, List.getElem_cons_succ, List.getElem_cons_zero, List.setIfInBounds_toArray, List.set_cons_zero, List.set_cons_succ]
    refine wpAnyH_take (i := 6) (v := undef) rfl (by kernel_rfl) (by kernel_rfl) (by kernel_rfl) (fun _ _ _ h => h) (Or.inr ⟨by kernel_rfl, rfl⟩) (by assumption) ?_
    try simp only [Act.put, List.getElem_toArray, List.getElem_cons_succ, List.getElem_cons_zero, List.setIfInBounds_toArray, List.set_cons_zero, List.set_cons_succ]
    refine wpAnyH_take (i := 7) (v := .bool true) rfl (by kernel_rfl) (by kernel_rfl) (by kernel_rfl) (fun _ _ _ h => h) (Or.inl ⟨by rfl, ?_⟩) (by assumption) ?_
    · intro wz hSw; (try dsimp only at hSw); go_simp; try rfl
    try simp only [Act.put, List.getElem_toArray, List.getElem_cons_succ, List.getElem_cons_zero, List.setIfInBounds_toArray, List.set_cons_zero, List.set_cons_succ]
    refine wpAnyH_take (i := 8) (v := .bool true) rfl (by kernel_rfl) (by kernel_rfl) (by kernel_rfl) (fun _ _ _ h => h) (Or.inl ⟨by rfl, ?_⟩) (by assumption) ?_
    · intro wz hSw; (try dsimp only at hSw); go_simp; try rfl
    try simp only [Act.put, List.getElem_toArray, List.getElem_cons_succ, List.getElem_cons_zero, List.setIfInBounds_toArray, List.set_cons_zero, List.set_cons_succ]
    refine wpAnyH_take (i := 9) (v := undef) rfl (by kernel_rfl) (by kernel_rfl) (by kernel_rfl) (fun _ _ _ h => h) (Or.inr ⟨by kernel_rfl, rfl⟩) (by assumption) ?_
    try simp only [Act.put, List.getElem_toArray, List.getElem_cons_succ, List.getElem_cons_zero, List.setIfInBounds_toArray, List.set_cons_zero, List.set_cons_succ]
    refine wpAnyH_take (i := 10) (v := undef) rfl (by kernel_rfl) (by kernel_rfl) (by kernel_rfl) (fun _ _ _ h => h) (Or.inr ⟨by kernel_rfl, rfl⟩) (by assumption) ?_
    try simp only [Act.put, List.getElem_toArray, List.getElem_cons_succ, List.getElem_cons_zero, List.setIfInBounds_toArray, List.set_cons_zero, List.set_cons_succ]
    refine wpAnyH_take (i := 11) (v := undef) rfl (by kernel_rfl) (by kernel_rfl) (by kernel_rfl) (fun _ _ _ h => h) (Or.inr ⟨by kernel_rfl, rfl⟩) (by assumption) ?_
    try simp only [Act.put, List.getElem_toArray, List.getElem_cons_succ, List.getElem_cons_zero, List.setIfInBounds_toArray, List.set_cons_zero, List.set_cons_succ]
    refine wpAnyH_take (i := 12) (v := undef) rfl (by kernel_rfl) (by kernel_rfl) (by kernel_rfl) (fun _ _ _ h => h) (Or.inr ⟨by kernel_rfl, rfl⟩) (by assumption) ?_
    try simp only [Act.put, List.getElem_toArray, List.getElem_cons_succ, List.getElem_cons_zero, List.setIfInBounds_toArray, List.set_cons_zero, List.set_cons_succ]
    refine wpAnyH_take (i := 13) (v := undef) rfl (by kernel_rfl) (by kernel_rfl) (by kernel_rfl) (fun _ _ _ h => h) (Or.inr ⟨by kernel_rfl, rfl⟩) (by assumption) ?_
    try simp only [Act.put, List.getElem_toArray, List.getElem_cons_succ, List.getElem_cons_zero, List.setIfInBounds_toArray, List.set_cons_zero, List.set_cons_succ]
    refine wpAnyH_take (i := 14) (v := .bool true) rfl (by kernel_rfl) (by kernel_rfl) (by kernel_rfl) (fun _ _ _ h => h) (Or.inl ⟨by rfl, ?_⟩) (by assumption) ?_
    · intro wz hSw; (try dsimp only at hSw); go_simp; try rfl
    try simp only [Act.put, List.getElem_toArray, List.getElem_cons_succ, List.getElem_cons_zero, List.setIfInBounds_toArray, List.set_cons_zero, List.set_cons_succ]
    refine wpAnyH_done (by kernel_rfl) ?_ _
    go_wp2_with fail
    go_ret2
    exact ⟨_, _, _, rfl, HNO.out, NILM.out _, OUT.out _ hb2⟩
  have HDG := Lib.hid (dec_true hsg)
  by_cases hsh : GOk h ∧ h.length ≤ 8
  case neg =>
    have HD := Lib.hid (dec_false hsh)
    have HNO : Hid (AlkS g h [] false) := Lib.hid (.inr ⟨rfl, rfl, fun k => hsh ⟨k.2.1, by have := k.2.2.1; have := k.2.2.2.1; omega⟩⟩)
    clear hsg hsh
    go_enter Tryd.func45, Tryd.ntmps45
    go_upto_region 1 with fail
    rw [← hW0]
    clear hW0
    refine wp_region_held_drew (S := (fun w' => w'.cell? ⟨w.heap.size, 0, none⟩ = some (.slice gp g.length gc) ∧ w'.cell? ⟨w.heap.size + 1, 0, none⟩ = some (.slice hp h.length hc))) (by kernel_rfl) ?_ (fun hHeld => ?_)
    · exact ⟨c0, c1⟩
    refine wpAnyH_take (i := 0) (v := .agg #[.slice gp g.length gc]) rfl (by kernel_rfl) (by kernel_rfl) (by kernel_rfl) (fun _ _ _ h => h) (Or.inl ⟨by rfl, ?_⟩) (by assumption) ?_
    · intro wz hSw; (try dsimp only at hSw); go_simp; try rfl
    try simp only [Act.put, List.getElem_toArray, List.getElem_cons_succ, List.getElem_cons_zero, List.setIfInBounds_toArray, List.set_cons_zero, List.set_cons_succ]
    refine wpAnyH_ready (rs := [1]) (by kernel_rfl) (by simp) ?_
    refine AllReadyH.cons rfl (fun K hK => ?_) AllReadyH.nil
    go_simp
    go_at_call 131
    refine (l4Small_any _ g _ (by first | exact HG.out | exact HG.out.below (below_dN (Below.refl _ _) 1))).mono ?_
    rintro e w2 ⟨he, hb⟩
    rw [HDG.out] at he
    subst he
    have hb2 : Below W0.heap.size W0 w2 := (by first | exact hb | exact (below_dN (Below.refl _ _) 1).trans hb)
    clear hb
    refine hK.out _ _ ?_ (fun hHeld => ?_)
    · exact ⟨hb2.at' c0, hb2.at' c1⟩
    clear hK K
    try simp only [Act.put, List.getElem_toArray, List.getElem_cons_succ, List.getElem_cons_zero, List.setIfInBounds_toArray, List.set_cons_zero, List.set_cons_succ]
    refine wpAnyH_take (i := 2) (v := .bool false) rfl (by kernel_rfl) (by kernel_rfl) (by kernel_rfl) (fun _ _ _ h => h) (Or.inl ⟨by rfl, ?_⟩) (by assumption) ?_
    · intro wz hSw; (try dsimp only at hSw); go_simp; try rfl
    try simp only [Act.put, List.getElem_toArray, List.getElem_cons_succ, List.getElem_cons_zero, List.setIfInBounds_toArray, List.set_cons_zero, List.set_cons_succ]
    refine wpAnyH_take (i := 3) (v := .bool false) rfl (by kernel_rfl) (by kernel_rfl) (by kernel_rfl) (fun _ _ _ h => h) (Or.inl ⟨by rfl, ?_⟩) (by assumption) ?_
    · intro wz hSw; (try dsimp only at hSw); go_simp; try rfl
    try simp only [Act.put, List.getElem_toArray, List.getElem_cons_succ, List.getElem_cons_zero, List.setIfInBounds_toArray, List.set_cons_zero, List.set_cons_succ]
    refine wpAnyH_take (i := 4) (v := .agg #[.slice hp h.length hc]) rfl (by kernel_rfl) (by kernel_rfl) (by kernel_rfl) (fun _ _ _ h => h) (Or.inl ⟨by rfl, ?_⟩) (by assumption) ?_
    · intro wz hSw; (try dsimp only at hSw); go_simp; try rfl
    try simp only [Act.put, List.getElem_toArray, List.getElem_cons_succ, List.getElem_cons_zero, List.setIfInBounds_toArray, List.set_cons_zero, List.set_cons_succ]
    refine wpAnyH_ready (rs := [5]) (by kernel_rfl) (by simp) ?_
    refine AllReadyH.cons rfl (fun K hK => ?_) AllReadyH.nil
    go_simp
    go_at_call 131
    refine (l4Small_any _ h _ (by first | exact HH.out.below hb2 | exact HH.out.below (below_dN hb2 1))).mono ?_
    rintro e w3 ⟨he, hb⟩
    rw [HD.out] at he
    subst he
    have hb3 : Below W0.heap.size W0 w3 := (by first | exact hb2.trans (hb.mono hb2.size) | exact (below_dN hb2 1).trans (hb.mono (below_dN hb2 1).size))
    clear hb
    refine hK.out _ _ ?_ (fun hHeld => ?_)
    · exact ⟨hb3.at' c0, hb3.at' c1⟩
    clear hK K
    try simp only [Act.put, List.getElem_toArray, List.getElem_cons_succ, List.getElem_cons_zero, List.setIfInBounds_toArray, List.set_cons_zero, List.set_cons_succ]
    refine wpAnyH_take (i := 6) (v := .bool true) rfl (by kernel_rfl) (by kernel_rfl) (by kernel_rfl) (fun _ _ _ h => h) (Or.inl ⟨by rfl, ?_⟩) (by assumption) ?_
    · intro wz hSw; (try dsimp only at hSw); go_simp; try rfl
    try simp only [Act.put, List.getElem_toArray, List.getElem_cons_succ, List.getElem_cons_zero, List.setIfInBounds_toArray, List.set_cons_zero, List.set_cons_succ]
    refine wpAnyH_take (i := 7) (v := .bool true) rfl (by kernel_rfl) (by kernel_rfl) (by kernel_rfl) (fun _ _ _ h => h) (Or.inl ⟨by rfl, ?_⟩) (by assumption) ?_
    · intro wz hSw; (try dsimp only at hSw); go_simp; try rfl
    try simp only [Act.put, List.getElem_toArray, List.getElem_cons_succ, List.getElem_cons_zero, List.setIfInBounds_toArray, List.set_cons_zero, List.set_cons_succ]
    refine wpAnyH_take (i := 8) (v := .bool true) rfl (by kernel_rfl) (by kernel_rfl) (by kernel_rfl) (fun _ _ _ h => h) (Or.inl ⟨by rfl, ?_⟩) (by assumption) ?_
    · intro wz hSw; (try dsimp only at hSw); go_simp; try rfl
    try simp only [Act.put, List.getElem_toArray, List.getElem_cons_succ, List.getElem_cons_zero, List.setIfInBounds_toArray, List.set_cons_zero, List.set_cons_succ]
    refine wpAnyH_take (i := 9) (v := undef) rfl (by kernel_rfl) (by kernel_rfl) (by kernel_rfl) (fun _ _ _ h => h) (Or.inr ⟨by kernel_rfl, rfl⟩) (by assumption) ?_
    try simp only [Act.put, List.getElem_toArray, List.getElem_cons_succ, List.getElem_cons_zero, List.setIfInBounds_toArray, List.set_cons_zero, List.set_cons_succ]
    refine wpAnyH_take (i := 10) (v := undef) rfl (by kernel_rfl) (by kernel_rfl) (by kernel_rfl) (fun _ _ _ h => h) (Or.inr ⟨by kernel_rfl, rfl⟩) (by assumption) ?_
    try simp only [Act.put, List.getElem_toArray, List.getElem_cons_succ, List.getElem_cons_zero, List.setIfInBounds_toArray, List.set_cons_zero, List.set_cons_succ]
    refine wpAnyH_take (i := 11) (v := undef) rfl (by kernel_rfl) (by kernel_rfl) (by kernel_rfl) (fun _ _ _ h => h) (Or.inr ⟨by kernel_rfl, rfl⟩) (by assumption) ?_
    try simp only [Act.put, List.getElem_toArray, List.getElem_cons_succ, List.getElem_cons_zero, List.setIfInBounds_toArray, List.set_cons_zero, List.set_cons_succ]
    refine wpAnyH_take (i := 12) (v := undef) rfl (by kernel_rfl) (by kernel_rfl) (by kernel_rfl) (fun _ _ _ h => h) (Or.inr ⟨by kernel_rfl, rfl⟩) (by assumption) ?_
    try simp only [Act.put, List.getElem_toArray, List.getElem_cons_succ, List.getElem_cons_zero, List.setIfInBounds_toArray, List.set_cons_zero, List.set_cons_succ]
    refine wpAnyH_take (i := 13) (v := undef) rfl (by kernel_rfl) (by kernel_rfl) (by kernel_rfl) (fun _ _ _ h => h) (Or.inr ⟨by kernel_rfl, rfl⟩) (by assumption) ?_
    try simp only [Act.put, List.getElem_toArray, List.getElem_cons_succ, List.getElem_cons_zero, List.setIfInBounds_toArray, List.set_cons_zero, List.set_cons_succ]
    refine wpAnyH_take (i := 14) (v := .bool true) rfl (by kernel_rfl) (by kernel_rfl) (by kernel_rfl) (fun _ _ _ h => h) (Or.inl ⟨by rfl, ?_⟩) (by assumption) ?_
    · intro wz hSw; (try dsimp only at hSw); go_simp; try rfl
    try simp only [Act.put, List.getElem_toArray, List.getElem_cons_succ, List.getElem_cons_zero, List.setIfInBounds_toArray, List.set_cons_zero, List.set_cons_succ]
    refine wpAnyH_done (by kernel_rfl) ?_ _
    go_wp2_with fail
    go_ret2
    exact ⟨_, _, _, rfl, HNO.out, NILM.out _, OUT.out _ hb3⟩
  have HDH := Lib.hid (dec_true hsh)
  by_cases hlen : g.length = h.length
  case neg =>
    have hne : ((g.length : Int) != (h.length : Int)) = true := bne_iff_ne.2 (by omega)
    have HNO : Hid (AlkS g h [] false) := Lib.hid (.inr ⟨rfl, rfl, fun k => hlen k.2.2.2.1⟩)
    clear hsg hsh hlen
    go_enter Tryd.func45, Tryd.ntmps45
    go_upto_region 1 with fail
    rw [← hW0]
    clear hW0
    refine wp_region_held_drew (S := (fun w' => w'.cell? ⟨w.heap.size, 0, none⟩ = some (.slice gp g.length gc) ∧ w'.cell? ⟨w.heap.size + 1, 0, none⟩ = some (.slice hp h.length hc))) (by kernel_rfl) ?_ (fun hHeld => ?_)
    · exact ⟨c0, c1⟩
    refine wpAnyH_take (i := 0) (v := .agg #[.slice gp g.length gc]) rfl (by kernel_rfl) (by kernel_rfl) (by kernel_rfl) (fun _ _ _ h => h) (Or.inl ⟨by rfl, ?_⟩) (by assumption) ?_
    · intro wz hSw; (try dsimp only at hSw); go_simp; try rfl
    try simp only [Act.put, List.getElem_toArray, List.getElem_cons_succ, List.getElem_cons_zero, List.setIfInBounds_toArray, List.set_cons_zero, List.set_cons_succ]
    refine wpAnyH_ready (rs := [1]) (by kernel_rfl) (by simp) ?_
    refine AllReadyH.cons rfl (fun K hK => ?_) AllReadyH.nil
    go_simp
    go_at_call 131
    refine (l4Small_any _ g _ (by first | exact HG.out | exact HG.out.below (below_dN (Below.refl _ _) 1))).mono ?_
    rintro e w2 ⟨he, hb⟩
    rw [HDG.out] at he
    subst he
    have hb2 : Below W0.heap.size W0 w2 := (by first | exact hb | exact (below_dN (Below.refl _ _) 1).trans hb)
    clear hb
    refine hK.out _ _ ?_ (fun hHeld => ?_)
    · exact ⟨hb2.at' c0, hb2.at' c1⟩
    clear hK K
    try simp only [Act.put, List.getElem_toArray, List.getElem_cons_succ, List.getElem_cons_zero, List.setIfInBounds_toArray, List.set_cons_zero, List.set_cons_succ]
    refine wpAnyH_take (i := 2) (v := .bool false) rfl (by kernel_rfl) (by kernel_rfl) (by kernel_rfl) (fun _ _ _ h => h) (Or.inl ⟨by rfl, ?_⟩) (by assumption) ?_
    · intro wz hSw; (try dsimp only at hSw); go_simp; try rfl
    try simp only [Act.put, List.getElem_toArray, List.getElem_cons_succ, List.getElem_cons_zero, List.setIfInBounds_toArray, List.set_cons_zero, List.set_cons_succ]
    refine wpAnyH_take (i := 3) (v := .bool false) rfl (by kernel_rfl) (by kernel_rfl) (by kernel_rfl) (fun _ _ _ h => h) (Or.inl ⟨by rfl, ?_⟩) (by assumption) ?_
    · intro wz hSw; (try dsimp only at hSw); go_simp; try rfl
    try simp only [Act.put, List.getElem_toArray, List.getElem_cons_succ, List.getElem_cons_zero, List.setIfInBounds_toArray, List.set_cons_zero, List.set_cons_succ]
    refine wpAnyH_take (i := 4) (v := .agg #[.slice hp h.length hc]) rfl (by kernel_rfl) (by kernel_rfl) (by kernel_rfl) (fun _ _ _ h => h) (Or.inl ⟨by rfl, ?_⟩) (by assumption) ?_
    · intro wz hSw; (try dsimp only at hSw); go_simp; try rfl
    try simp only [Act.put, List.getElem_toArray, List.getElem_cons_succ, List.getElem_cons_zero, List.setIfInBounds_toArray, List.set_cons_zero, List.set_cons_succ]
    refine wpAnyH_ready (rs := [5]) (by kernel_rfl) (by simp) ?_
    refine AllReadyH.cons rfl (fun K hK => ?_) AllReadyH.nil
    go_simp
    go_at_call 131
    refine (l4Small_any _ h _ (by first | exact HH.out.below hb2 | exact HH.out.below (below_dN hb2 1))).mono ?_
    rintro e w3 ⟨he, hb⟩
    rw [HDH.out] at he
    subst he
    have hb3 : Below W0.heap.size W0 w3 := (by first | exact hb2.trans (hb.mono hb2.size) | exact (below_dN hb2 1).trans (hb.mono (below_dN hb2 1).size))
    clear hb
    refine hK.out _ _ ?_ (fun hHeld => ?_)
    · exact ⟨hb3.at' c0, hb3.at' c1⟩
    clear hK K
    try simp only [Act.put, List.getElem_toArray, List.getElem_cons_succ, List.getElem_cons_zero, List.setIfInBounds_toArray, List.set_cons_zero, List.set_cons_succ]
    refine wpAnyH_take (i := 6) (v := .bool false) rfl (by kernel_rfl) (by kernel_rfl) (by kernel_rfl) (fun _ _ _ h => h) (Or.inl ⟨by rfl, ?_⟩) (by assumption) ?_
    · intro wz hSw; (try dsimp only at hSw); go_simp; try rfl
    try simp only [Act.put, List.getElem_toArray, List.getElem_cons_succ, List.getElem_cons_zero, List.setIfInBounds_toArray, List.set_cons_zero, List.set_cons_succ]
    refine wpAnyH_take (i := 7) (v := .bool false) rfl (by kernel_rfl) (by kernel_rfl) (by kernel_rfl) (fun _ _ _ h => h) (Or.inl ⟨by rfl, ?_⟩) (by assumption) ?_
    · intro wz hSw; (try dsimp only at hSw); go_simp; try rfl
    try simp only [Act.put, List.getElem_toArray, List.getElem_cons_succ, List.getElem_cons_zero, List.setIfInBounds_toArray, List.set_cons_zero, List.set_cons_succ]
    refine wpAnyH_take (i := 8) (v := .bool false) rfl (by kernel_rfl) (by kernel_rfl) (by kernel_rfl) (fun _ _ _ h => h) (Or.inl ⟨by rfl, ?_⟩) (by assumption) ?_
    · intro wz hSw; (try dsimp only at hSw); go_simp; try rfl
    try simp only [Act.put, List.getElem_toArray, List.getElem_cons_succ, List.getElem_cons_zero, List.setIfInBounds_toArray, List.set_cons_zero, List.set_cons_succ]
    refine wpAnyH_take (i := 9) (v := .agg #[.slice gp g.length gc]) rfl (by kernel_rfl) (by kernel_rfl) (by kernel_rfl) (fun _ _ _ h => h) (Or.inl ⟨by rfl, ?_⟩) (by assumption) ?_
    · intro wz hSw; (try dsimp only at hSw); go_simp; try rfl
    try simp only [Act.put, List.getElem_toArray, List.getElem_cons_succ, List.getElem_cons_zero, List.setIfInBounds_toArray, List.set_cons_zero, List.set_cons_succ]
    refine wpAnyH_take (i := 11) (v := .agg #[.slice hp h.length hc]) rfl (by kernel_rfl) (by kernel_rfl) (by kernel_rfl) (fun _ _ _ h => h) (Or.inl ⟨by rfl, ?_⟩) (by assumption) ?_
    · intro wz hSw; (try dsimp only at hSw); go_simp; try rfl
    try simp only [Act.put, List.getElem_toArray, List.getElem_cons_succ, List.getElem_cons_zero, List.setIfInBounds_toArray, List.set_cons_zero, List.set_cons_succ]
    refine wpAnyH_ready (rs := [10]) (by kernel_rfl) (by simp) ?_
    refine AllReadyH.cons rfl (fun K hK => ?_) AllReadyH.nil
    go_simp
    go_at_call 132
    refine (l1Size_any _ g _ (by first | exact HG.out.below hb3 | exact HG.out.below (below_dN hb3 1))).mono ?_
    rintro e w4 ⟨rfl, hb⟩
    have hb4 : Below W0.heap.size W0 w4 := (by first | exact hb3.trans (hb.mono hb3.size) | exact (below_dN hb3 1).trans (hb.mono (below_dN hb3 1).size))
    clear hb
    refine hK.out _ _ ?_ (fun hHeld => ?_)
    · exact ⟨hb4.at' c0, hb4.at' c1⟩
    clear hK K
    try simp only [Act.put, List.getElem_toArray, List.getElem_cons_succ, List.getElem_cons_zero, List.setIfInBounds_toArray, List.set_cons_zero, List.set_cons_succ]
    refine wpAnyH_ready (rs := [12]) (by kernel_rfl) (by simp) ?_
    refine AllReadyH.cons rfl (fun K hK => ?_) AllReadyH.nil
    go_simp
    go_at_call 132
    refine (l1Size_any _ h _ (by first | exact HH.out.below hb4 | exact HH.out.below (below_dN hb4 1))).mono ?_
    rintro e w5 ⟨rfl, hb⟩
    have hb5 : Below W0.heap.size W0 w5 := (by first | exact hb4.trans (hb.mono hb4.size) | exact (below_dN hb4 1).trans (hb.mono (below_dN hb4 1).size))
    clear hb
    refine hK.out _ _ ?_ (fun hHeld => ?_)
    · exact ⟨hb5.at' c0, hb5.at' c1⟩
    clear hK K
    try simp only [Act.put, List.getElem_toArray, List.getElem_cons_succ, List.getElem_cons_zero, List.setIfInBounds_toArray, List.set_cons_zero, List.set_cons_succ]
    refine wpAnyH_take (i := 13) (v := .bool true) rfl (by kernel_rfl) (by kernel_rfl) (by kernel_rfl) (fun _ _ _ h => h) (Or.inl ⟨by rfl, ?_⟩) (by assumption) ?_
    · intro wz hSw; (try dsimp only at hSw); go_simp; try rfl
    try simp only [Act.put, List.getElem_toArray, List.getElem_cons_succ, List.getElem_cons_zero, List.setIfInBounds_toArray, List.set_cons_zero, List.set_cons_succ]
    refine wpAnyH_take (i := 14) (v := .bool true) rfl (by kernel_rfl) (by kernel_rfl) (by kernel_rfl) (fun _ _ _ h => h) (Or.inl ⟨by rfl, ?_⟩) (by assumption) ?_
    · intro wz hSw; (try dsimp only at hSw); go_simp; try rfl
    try simp only [Act.put, List.getElem_toArray, List.getElem_cons_succ, List.getElem_cons_zero, List.setIfInBounds_toArray, List.set_cons_zero, List.set_cons_succ]
    refine wpAnyH_done (by kernel_rfl) ?_ _
    go_wp2_with fail
    go_ret2
    exact ⟨_, _, _, rfl, HNO.out, NILM.out _, OUT.out _ hb5⟩
  have hne : ((g.length : Int) != (h.length : Int)) = false := by rw [hlen]; simp
  have h8 := hsg.2
  have h16 := hsg.1.le
  have HLEN := Lib.hid hlen
  have hpos := hsh.1.pos
  have hgpos := hsg.1.pos
  have h8h := hsh.2
  have HOG := Lib.hid hsg.1
  have HOH := Lib.hid hsh.1
  obtain ⟨res, hres⟩ : ∃ res, res = fitF g.length (ofG g) (ofG h) h.length [] := ⟨_, rfl⟩
  have HRES := Lib.hid hres
  have FF : Hid (∀ wz ev, Gr wz (.agg #[.slice gp g.length gc]) g → Gr wz (.agg #[.slice hp h.length hc]) h → Nums wz 2 .i64 ev [] → Calls Tryd.prog 133 #[.agg #[.slice hp h.length hc], .agg #[.slice gp g.length gc], ev] wz fun e w' => ∃ u, e = .returned u ∧ Nums w' 2 .i64 u (natInts (res.getD [])) ∧ Below wz.heap.size wz w') := Lib.hid (fun wz ev hx hy he => by
    rw [hres, ← embE_ofG hsg.1, show ofG h = (fun k i => edB h i k) from (embE_ofG hsh.1).symm]
    have := l4Embed_any h g hpos (by omega) (by omega) h.length [] _ _ ev wz (by simp) (by simp) hy hx he
    exact this)
  clear hsg hsh hlen hres
  go_enter Tryd.func45, Tryd.ntmps45
  go_upto_region 1 with fail
  rw [← hW0]
  clear hW0
  refine wp_region_held_drew (S := (fun w' => w'.cell? ⟨w.heap.size, 0, none⟩ = some (.slice gp g.length gc) ∧ w'.cell? ⟨w.heap.size + 1, 0, none⟩ = some (.slice hp h.length hc))) (by kernel_rfl) ?_ (fun hHeld => ?_)
  · exact ⟨c0, c1⟩
  refine wpAnyH_take (i := 0) (v := .agg #[.slice gp g.length gc]) rfl (by kernel_rfl) (by kernel_rfl) (by kernel_rfl) (fun _ _ _ h => h) (Or.inl ⟨by rfl, ?_⟩) (by assumption) ?_
  · intro wz hSw; (try dsimp only at hSw); go_simp; try rfl
  try simp only [Act.put, List.getElem_toArray, List.getElem_cons_succ, List.getElem_cons_zero, List.setIfInBounds_toArray, List.set_cons_zero, List.set_cons_succ]
  refine wpAnyH_ready (rs := [1]) (by kernel_rfl) (by simp) ?_
  refine AllReadyH.cons rfl (fun K hK => ?_) AllReadyH.nil
  go_simp
  go_at_call 131
  refine (l4Small_any _ g _ (by first | exact HG.out | exact HG.out.below (below_dN (Below.refl _ _) 1))).mono ?_
  rintro e w2 ⟨he, hb⟩
  rw [HDG.out] at he
  subst he
  have hb2 : Below W0.heap.size W0 w2 := (by first | exact hb | exact (below_dN (Below.refl _ _) 1).trans hb)
  clear hb
  refine hK.out _ _ ?_ (fun hHeld => ?_)
  · exact ⟨hb2.at' c0, hb2.at' c1⟩
  clear hK K
  try simp only [Act.put, List.getElem_toArray, List.getElem_cons_succ, List.getElem_cons_zero, List.setIfInBounds_toArray, List.set_cons_zero, List.set_cons_succ]
  refine wpAnyH_take (i := 2) (v := .bool false) rfl (by kernel_rfl) (by kernel_rfl) (by kernel_rfl) (fun _ _ _ h => h) (Or.inl ⟨by rfl, ?_⟩) (by assumption) ?_
  · intro wz hSw; (try dsimp only at hSw); go_simp; try rfl
  try simp only [Act.put, List.getElem_toArray, List.getElem_cons_succ, List.getElem_cons_zero, List.setIfInBounds_toArray, List.set_cons_zero, List.set_cons_succ]
  refine wpAnyH_take (i := 3) (v := .bool false) rfl (by kernel_rfl) (by kernel_rfl) (by kernel_rfl) (fun _ _ _ h => h) (Or.inl ⟨by rfl, ?_⟩) (by assumption) ?_
  · intro wz hSw; (try dsimp only at hSw); go_simp; try rfl
  try simp only [Act.put, List.getElem_toArray, List.getElem_cons_succ, List.getElem_cons_zero, List.setIfInBounds_toArray, List.set_cons_zero, List.set_cons_succ]
  refine wpAnyH_take (i := 4) (v := .agg #[.slice hp h.length hc]) rfl (by kernel_rfl) (by kernel_rfl) (by kernel_rfl) (fun _ _ _ h => h) (Or.inl ⟨by rfl, ?_⟩) (by assumption) ?_
  · intro wz hSw; (try dsimp only at hSw); go_simp; try rfl
  try simp only [Act.put, List.getElem_toArray, List.getElem_cons_succ, List.getElem_cons_zero, List.setIfInBounds_toArray, List.set_cons_zero, List.set_cons_succ]
  refine wpAnyH_ready (rs := [5]) (by kernel_rfl) (by simp) ?_
  refine AllReadyH.cons rfl (fun K hK => ?_) AllReadyH.nil
  go_simp
  go_at_call 131
  refine (l4Small_any _ h _ (by first | exact HH.out.below hb2 | exact HH.out.below (below_dN hb2 1))).mono ?_
  rintro e w3 ⟨he, hb⟩
  rw [HDH.out] at he
  subst he
  have hb3 : Below W0.heap.size W0 w3 := (by first | exact hb2.trans (hb.mono hb2.size) | exact (below_dN hb2 1).trans (hb.mono (below_dN hb2 1).size))
  clear hb
  refine hK.out _ _ ?_ (fun hHeld => ?_)
  · exact ⟨hb3.at' c0, hb3.at' c1⟩
  clear hK K
  try simp only [Act.put, List.getElem_toArray, List.getElem_cons_succ, List.getElem_cons_zero, List.setIfInBounds_toArray, List.set_cons_zero, List.set_cons_succ]
  refine wpAnyH_take (i := 6) (v := .bool false) rfl (by kernel_rfl) (by kernel_rfl) (by kernel_rfl) (fun _ _ _ h => h) (Or.inl ⟨by rfl, ?_⟩) (by assumption) ?_
  · intro wz hSw; (try dsimp only at hSw); go_simp; try rfl
  try simp only [Act.put, List.getElem_toArray, List.getElem_cons_succ, List.getElem_cons_zero, List.setIfInBounds_toArray, List.set_cons_zero, List.set_cons_succ]
  refine wpAnyH_take (i := 7) (v := .bool false) rfl (by kernel_rfl) (by kernel_rfl) (by kernel_rfl) (fun _ _ _ h => h) (Or.inl ⟨by rfl, ?_⟩) (by assumption) ?_
  · intro wz hSw; (try dsimp only at hSw); go_simp; try rfl
  try simp only [Act.put, List.getElem_toArray, List.getElem_cons_succ, List.getElem_cons_zero, List.setIfInBounds_toArray, List.set_cons_zero, List.set_cons_succ]
  refine wpAnyH_take (i := 8) (v := .bool false) rfl (by kernel_rfl) (by kernel_rfl) (by kernel_rfl) (fun _ _ _ h => h) (Or.inl ⟨by rfl, ?_⟩) (by assumption) ?_
  · intro wz hSw; (try dsimp only at hSw); go_simp; try rfl
  try simp only [Act.put, List.getElem_toArray, List.getElem_cons_succ, List.getElem_cons_zero, List.setIfInBounds_toArray, List.set_cons_zero, List.set_cons_succ]
  refine wpAnyH_take (i := 9) (v := .agg #[.slice gp g.length gc]) rfl (by kernel_rfl) (by kernel_rfl) (by kernel_rfl) (fun _ _ _ h => h) (Or.inl ⟨by rfl, ?_⟩) (by assumption) ?_
  · intro wz hSw; (try dsimp only at hSw); go_simp; try rfl
  try simp only [Act.put, List.getElem_toArray, List.getElem_cons_succ, List.getElem_cons_zero, List.setIfInBounds_toArray, List.set_cons_zero, List.set_cons_succ]
  refine wpAnyH_take (i := 11) (v := .agg #[.slice hp h.length hc]) rfl (by kernel_rfl) (by kernel_rfl) (by kernel_rfl) (fun _ _ _ h => h) (Or.inl ⟨by rfl, ?_⟩) (by assumption) ?_
  · intro wz hSw; (try dsimp only at hSw); go_simp; try rfl
  try simp only [Act.put, List.getElem_toArray, List.getElem_cons_succ, List.getElem_cons_zero, List.setIfInBounds_toArray, List.set_cons_zero, List.set_cons_succ]
  refine wpAnyH_ready (rs := [10]) (by kernel_rfl) (by simp) ?_
  refine AllReadyH.cons rfl (fun K hK => ?_) AllReadyH.nil
  go_simp
  go_at_call 132
  refine (l1Size_any _ g _ (by first | exact HG.out.below hb3 | exact HG.out.below (below_dN hb3 1))).mono ?_
  rintro e w4 ⟨rfl, hb⟩
  have hb4 : Below W0.heap.size W0 w4 := (by first | exact hb3.trans (hb.mono hb3.size) | exact (below_dN hb3 1).trans (hb.mono (below_dN hb3 1).size))
  clear hb
  refine hK.out _ _ ?_ (fun hHeld => ?_)
  · exact ⟨hb4.at' c0, hb4.at' c1⟩
  clear hK K
  try simp only [Act.put, List.getElem_toArray, List.getElem_cons_succ, List.getElem_cons_zero, List.setIfInBounds_toArray, List.set_cons_zero, List.set_cons_succ]
  refine wpAnyH_ready (rs := [12]) (by kernel_rfl) (by simp) ?_
  refine AllReadyH.cons rfl (fun K hK => ?_) AllReadyH.nil
  go_simp
  go_at_call 132
  refine (l1Size_any _ h _ (by first | exact HH.out.below hb4 | exact HH.out.below (below_dN hb4 1))).mono ?_
  rintro e w5 ⟨rfl, hb⟩
  have hb5 : Below W0.heap.size W0 w5 := (by first | exact hb4.trans (hb.mono hb4.size) | exact (below_dN hb4 1).trans (hb.mono (below_dN hb4 1).size))
  clear hb
  refine hK.out _ _ ?_ (fun hHeld => ?_)
  · exact ⟨hb5.at' c0, hb5.at' c1⟩
  clear hK K
  try simp only [Act.put, List.getElem_toArray, List.getElem_cons_succ, List.getElem_cons_zero, List.setIfInBounds_toArray, List.set_cons_zero, List.set_cons_succ]
  refine wpAnyH_take (i := 13) (v := .bool false) rfl (by kernel_rfl) (by kernel_rfl) (by kernel_rfl) (fun _ _ _ h => h) (Or.inl ⟨by rfl, ?_⟩) (by assumption) ?_
  · intro wz hSw; (try dsimp only at hSw); go_simp; try rfl
  try simp only [Act.put, List.getElem_toArray, List.getElem_cons_succ, List.getElem_cons_zero, List.setIfInBounds_toArray, List.set_cons_zero, List.set_cons_succ]
  refine wpAnyH_take (i := 14) (v := .bool false) rfl (by kernel_rfl) (by kernel_rfl) (by kernel_rfl) (fun _ _ _ h => h) (Or.inl ⟨by rfl, ?_⟩) (by assumption) ?_
  · intro wz hSw; (try dsimp only at hSw); go_simp; try rfl
  try simp only [Act.put, List.getElem_toArray, List.getElem_cons_succ, List.getElem_cons_zero, List.setIfInBounds_toArray, List.set_cons_zero, List.set_cons_succ]
  refine wpAnyH_done (by kernel_rfl) ?_ _
  go_upto_region 3 with fail
  have HB5 := Lib.hid hb5
  have e0 := hb5.at' c0
  have e1 := hb5.at' c1
  have HG5 := Lib.hid (HG.out.below hb5)
  have HH5 := Lib.hid (HH.out.below hb5)
  clear hb2 hb3 hb4 hb5 c0 c1
  go_upto_region 4 with (go_at_call 133; refine (FF.out _ _ (HG5.out.below (below_alloc _ _)) (HH5.out.below (below_alloc _ _)) (Sl.nothing _ _ _ _ (by simp))).mono ?_; rintro e wc ⟨fv, rfl, hfv, hbq⟩; obtain ⟨rp, rc, rfl, _⟩ := id hfv.shape; have HN9 := Lib.hid hfv; have HB9 : Hid (Below w5.heap.size w5 wc) := Lib.hid ((below_alloc _ _).trans (hbq.mono (below_alloc _ _).size)); clear hbq hfv)
  have HBZ := Lib.hid (HBA.out.trans ((HB5.out.trans (HB9.out.mono HB5.out.size)).mono HBA.out.size))
  cases res with
  | none =>
    have HNO : Hid (AlkS g h [] false) := Lib.hid (.inr ⟨rfl, rfl, fun k => by
      obtain ⟨_, _, _, _, o, ho⟩ := k
      rw [← HRES.out] at ho
      cases ho⟩)
    go_wp2_with fail
    go_ret2
    exact ⟨_, _, _, rfl, HNO.out, HN9.out, HBZ.out⟩
  | some l =>
    have hl0 : 0 < l.length := by
      obtain ⟨u, hu, hul, _⟩ := fitF_some _ _ _ HRES.out.symm
      rw [hu, List.nil_append]; omega
    have hnl9 : 0 < (natInts l).length := by rw [natInts_length]; exact hl0
    have HYES : Hid (AlkS g h (natInts l) true) := Lib.hid (.inl ⟨rfl, HOG.out, HOH.out, h8, HLEN.out, l, HRES.out.symm, rfl⟩)
    have hd9 : decide ((0 : Int) < ((natInts l).length : Int)) = true := decide_eq_true (by omega)
    have HB10 := Lib.hid hd9
    go_wp2_with fail
    go_ret2
    refine ⟨_, _, true, ?_, HYES.out, HN9.out, HBZ.out⟩
    congr

end Go.Proofs.YtkppbmfliejnmaaDoor
