/- Small laws on what a law's walk compares. -/
import Derived.Test.YtiklocamfgopbaaDoorFoQ10
import Derived.Test.YtiklocamfgopbaaDoorFoQ27
namespace Go.Proofs.YtiklocamfgopbaaDoor
open Go.RowKit

theorem OwnG.shape {w : World} {base : Nat} {v : Value} {g : List (List Int)} (h : OwnG w base v g) : ∃ p c, v = .agg #[.slice p g.length c] := by
  obtain ⟨u, rfl, vals, _, h2, _⟩ := h
  rcases h2.2 with ⟨rfl, h0⟩ | ⟨b, c, _, rfl, _⟩
  · exact ⟨none, 0, by rw [h0]⟩
  · exact ⟨_, _, rfl⟩
theorem owns_shape {w : World} {base : Nat} {E : TypeId} {size n : Nat} {v : Value} {xs : List Value} (h : w.ownsRow base E size v n xs) : ∃ p c, v = .slice p n c := by
  rcases h.2 with ⟨rfl, rfl⟩ | ⟨b, c, _, rfl, _⟩
  · exact ⟨none, 0, rfl⟩
  · exact ⟨_, _, rfl⟩
theorem eqInt64S_b (u v : Value) (xs ys : List Int) (h : xs = ys) (w : World) (hx : Nums w 2 .i64 u xs) (hy : Nums w 2 .i64 v ys) :
    Calls Tryd.prog 16 #[u, v] w fun e w' => e = .returned (.bool true) ∧ Below w.heap.size w w' :=
  (eqInt64S_any u v xs ys w hx hy).mono fun e w' ⟨he, q, hq⟩ => by
    subst hq
    rw [dec_true h] at he
    exact ⟨he, below_dN (Below.refl _ _) q⟩
theorem eqGraph_b (u v : Value) (g : List (List Int)) (w : World) (hx : Gr w u g) (hy : Gr w v g) :
    Calls Tryd.prog 10 #[u, v] w fun e w' => e = .returned (.bool true) ∧ Below w.heap.size w w' :=
  (eqGraph_any u v g g w hx hy).mono fun e w' ⟨he, hb⟩ => by
    rw [dec_true rfl] at he
    exact ⟨he, hb⟩

end Go.Proofs.YtiklocamfgopbaaDoor

/- Walks: the laws on models: like those on graphs. -/
namespace Go.Proofs.YtiklocamfgopbaaDoor
open Go.RowKit

set_option maxRecDepth 100000 in
set_option maxHeartbeats 1000000 in
theorem eqModel_any (u v : Value) (g h : List (List Int)) (w : World) (hx : Gr w u g) (hy : Gr w v h) :
    Calls Tryd.prog 9 #[u, v] w fun e w' => e = .returned (.bool (dec (g = h))) ∧ Below w.heap.size w w' := by
  obtain ⟨u, rfl, hx⟩ := hx
  obtain ⟨v, rfl, hy⟩ := hy
  obtain ⟨p, c, rfl, hp, _, hn⟩ := hx.shape
  obtain ⟨p', c', rfl, hp', _, hn'⟩ := hy.shape
  have hb0 : Below w.heap.size w ((w.alloc (.cells #[.slice p g.length c] 27)).alloc (.cells #[.slice p' h.length c'] 27)) := (below_alloc w _).alloc (by rw [size_alloc]; omega) _
  have hx1 := hx.below hb0
  have hy1 := hy.below hb0
  by_cases he : g = h
  · have he' := dec_true he
    have He := Lib.hid he
    clear he
    go_enter Tryd.func9, Tryd.ntmps9
    go_wp2_with (go_at_call 38; refine (eqInt64SS_any _ _ g h _ hx1 hy1).mono ?_; rintro e w2 ⟨rfl, hb2⟩)
    go_ret
    exact ⟨ret_bool (true_dec He.out), hb0.trans (hb2.mono hb0.size)⟩
  · have he' := dec_false he
    have He := Lib.hid he
    clear he
    go_enter Tryd.func9, Tryd.ntmps9
    go_wp2_with (go_at_call 38; refine (eqInt64SS_any _ _ g h _ hx1 hy1).mono ?_; rintro e w2 ⟨rfl, hb2⟩)
    go_ret
    exact ⟨ret_bool (false_dec He.out), hb0.trans (hb2.mono hb0.size)⟩

theorem eqModel_b (u v : Value) (g : List (List Int)) (w : World) (hx : Gr w u g) (hy : Gr w v g) :
    Calls Tryd.prog 9 #[u, v] w fun e w' => e = .returned (.bool true) ∧ Below w.heap.size w w' :=
  (eqModel_any u v g g w hx hy).mono fun e w' ⟨he, hb⟩ => by
    rw [dec_true rfl] at he
    exact ⟨he, hb⟩

set_option maxRecDepth 100000 in
theorem markModel_x (v : Value) (g : List (List Int)) (base hi : Nat) (k : Int) (h1 : g.length ≤ 100000) (h2 : ∀ j, (row g j).length ≤ 1000) (h0 : 0 ≤ k) (hk1 : k ≤ 1048576) (w : World) (hd : DGh w base hi v g) :
    Calls Tryd.prog 12 #[v, .int .i64 k] w fun e w' => e = .returned (.int .i64 (k + preL g g.length)) ∧ DGh w' base hi v (markG k g) ∧ Apart base hi w w' := by
  obtain ⟨u, vals, rfl, hvl, ho, hr, hhi⟩ := hd
  have hb1 := below_alloc w (.cells #[u] 27)
  have hk' := Lib.hid (markInt64SS_x u g base k h1 h2 h0 hk1 _ vals hvl (ownsRow_below ho hb1) ⟨fun j hj => ownsRow_below (hr.rows j hj) hb1, hr.dis⟩ hi hhi)
  have Hb1 := Lib.hid (Apart.of_below (lo := base) (hi := hi) hb1)
  have Hvl := Lib.hid hvl
  have Hhi := Lib.hid hhi
  have hsh : u = .slice none 0 0 ∨ ∃ b c, u = .slice (some ⟨b, 0, none⟩) g.length c := by
    rcases ho.2 with ⟨h, _⟩ | ⟨b, c, _, h, _⟩
    · exact .inl h
    · exact .inr ⟨b, c, h⟩
  clear hvl ho hr hb1 h2 hhi
  rcases hsh with rfl | ⟨b, c, rfl⟩
  all_goals
    go_enter Tryd.func12, Tryd.ntmps12
    go_wp2_with (go_at_call 39; refine hk'.out.mono ?_; rintro e w2 ⟨rfl, ho2, hd2, hb2⟩)
    go_ret
    exact ⟨rfl, ⟨_, vals, rfl, by rw [markG_length]; exact Hvl.out, by rw [markG_length]; exact ho2, by rw [markG_length]; exact hd2, by rw [markG_length]; exact Hhi.out⟩, Hb1.out.trans hb2⟩

set_option maxRecDepth 100000 in
theorem heldModel_x (v : Value) (g : List (List Int)) (k : Int) (h1 : g.length ≤ 100000) (h2 : ∀ j, (row g j).length ≤ 1000) (h0 : 0 ≤ k) (hk1 : k ≤ 1048576) (w : World) (hx : Gr w v (markG k g)) :
    Calls Tryd.prog 13 #[v, .int .i64 k] w fun e w' => e = .returned (.int .i64 (k + preL g g.length)) ∧ Below w.heap.size w w' := by
  obtain ⟨u, rfl, hr⟩ := hx
  obtain ⟨p, c, rfl, _⟩ := hr.shape
  have hb1 := below_alloc w (.cells #[.slice p (markG k g).length c] 27)
  have hk' := Lib.hid (heldInt64SS_x _ g k h1 h2 h0 hk1 _ (hr.below hb1))
  have Hb1 := Lib.hid hb1
  have hp : ¬ (k + (preL g g.length : Int)) < 0 := by omega
  clear hr hb1 h2
  go_enter Tryd.func13, Tryd.ntmps13
  go_wp2_with (go_at_call 40; refine hk'.out.mono ?_; rintro e w2 ⟨rfl, rfl⟩)
  go_ret
  exact ⟨rfl, Hb1.out⟩

end Go.Proofs.YtiklocamfgopbaaDoor
