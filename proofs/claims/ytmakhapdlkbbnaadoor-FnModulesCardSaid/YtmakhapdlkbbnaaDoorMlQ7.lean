/- Walks: sets of neighbours. -/
import Derived.Test.YtmakhapdlkbbnaaDoorMlQ6
import Derived.Deep.RegionWith
namespace Go.Proofs.YtmakhapdlkbbnaaDoor
open Go.RowKit

/-- A set of vertices as a value. -/
def u32v (s : Nat) : Value := .int .u32 (s : Int)
/-- The sets of neighbours of a graph. -/
def netL (g : List (List Int)) : List Nat := g.map mask

theorem mask_take_lt16 {xs : List Int} (h : ∀ x ∈ xs, 0 ≤ x ∧ x < 16) (k : Nat) : mask (xs.take k) < 65536 :=
  mask_lt16 _ fun x hx => (h x (List.mem_of_mem_take hx)).2

theorem or_u32 (a b : Nat) (ha : a < 65536) (hb : b < 65536) : bits BinOp.or IntKind.u32 (a : Int) (b : Int) = ((a ||| b : Nat) : Int) := u32_or_nat a b (by omega) (by omega)

set_option maxRecDepth 100000 in
set_option maxHeartbeats 1000000 in
theorem maskOf_any (v : Value) (xs : List Int) (hr : ∀ x ∈ xs, 0 ≤ x ∧ x < 16) (w : World) (hx : Nums w 2 .i64 v xs) :
    Calls Tryd.prog 102 #[v] w fun e w' => e = .returned (.int .u32 ((mask xs : Nat) : Int)) ∧ w = w' := by
  obtain ⟨p, c, rfl, _, _, hn, hat⟩ := hx
  go_enter Tryd.func102, Tryd.ntmps102
  go_wp2
  go_loop [3, 5, 8] (fun o _ i => ∃ k : Nat, k ≤ xs.length ∧ i = .int .i64 k ∧ o = .int .u32 (mask (xs.take k))) (fun _ _ i => xs.length - (intOf i).toNat)
  case atStart => exact ⟨0, Nat.zero_le _, rfl, rfl⟩
  case round =>
    obtain ⟨k, hk, rfl, rfl⟩ := hrel
    by_cases hlt : k < xs.length
    · obtain ⟨b, o, rfl, hcell⟩ := hat.num hlt
      have hb := hr _ (List.getElem_mem hlt)
      obtain ⟨m, hm⟩ : ∃ m : Nat, xs[k] = (m : Int) := ⟨xs[k].toNat, by omega⟩
      have hor := Lib.hid (or_u32 (mask (xs.take k)) (2 ^ m) (mask_take_lt16 hr k) (pow_lt16 m (by omega)))
      have hsn : mask (xs.take (k + 1)) = mask (xs.take k) ||| 2 ^ m := by rw [take_snoc' _ k hlt, mask_snoc, hm, Int.toNat_natCast]
      have Hsn := Lib.hid hsn
      have hm16 : m < 32 := by omega
      rw [hm] at hcell
      clear hsn hm hb hat hr
      generalize mask (xs.take k) = M at *
      go_wp2_with (go_at_call 135; refine (one_any _ m rfl hm16 _).mono ?_; rintro e w2 ⟨rfl, rfl⟩)
      go_round
      case rel => exact ⟨k + 1, by omega, by go_num, val_int (by rw [Hsn.out]; exact hor.out)⟩
      case measure => simp [intOf]; omega
    · obtain rfl : k = xs.length := by omega
      rw [List.take_length]
      go_wp2
      go_ret
      exact ⟨rfl, rfl⟩

theorem netL_lt {g : List (List Int)} (h : GOk g) : ∀ s ∈ netL g, s < 65536 := by
  intro s hs
  obtain ⟨r, hr, rfl⟩ := List.mem_map.1 hs
  obtain ⟨i, hi, rfl⟩ := List.mem_iff_getElem.1 hr
  have h1 := (h.sets i hi).1
  have e : row g i = g[i] := by simp [row, hi]
  rw [e] at h1
  exact mask_lt16 _ fun x hx => by have := (h1.1 x hx).2; have := h.le; omega

set_option maxRecDepth 100000 in
set_option maxHeartbeats 1000000 in
theorem netsOf_any (v : Value) (g : List (List Int)) (w : World) (hg : Gr w v g) (hok : GOk g) :
    Calls Tryd.prog 82 #[v] w fun e w' => ∃ u, e = .returned u ∧
      w'.ownsRow w.heap.size 79 1 u g.length ((netL g).map u32v) ∧ Below w.heap.size w w' := by
  obtain ⟨u, rfl, hr⟩ := hg
  obtain ⟨p, c, rfl, _, _, hn⟩ := hr.shape
  have h16 := hok.le
  have hbb := below_alloc w (.cells #[.slice p g.length c] 29)
  have hbox := cell_new w (.slice p g.length c) 29
  go_enter Tryd.func82, Tryd.ntmps82
  go_wp2
  go_loopw [3, 5, 10] (fun o _ i wr => ∃ k : Nat, k ≤ g.length ∧ i = .int .i64 k ∧ wr.ownsRow w.heap.size 79 1 o k ((netL (g.take k)).map u32v) ∧ Below w.heap.size w wr) (fun _ _ i _ => g.length - (intOf i).toNat)
  case atStart => exact ⟨0, Nat.zero_le _, rfl, ownsRow_empty' _ _ _ _ _ (by omega), hbb.alloc (by rw [size_alloc]; omega) _⟩
  case round =>
    clear hbox hbb
    obtain ⟨k, hk, rfl, hown, hbel⟩ := hrel
    have hszr := hbel.size
    by_cases hlt : k < g.length
    · obtain ⟨b, o, rp, rc, rfl, hcell, hnums⟩ := (hr.below hbel).get hlt
      change wr.cell? _ = some (.slice rp (row g k).length rc) at hcell
      change Nums wr _ _ (.slice rp (row g k).length rc) (row g k) at hnums
      have hin : ∀ x ∈ row g k, 0 ≤ x ∧ x < 16 := fun x hx => by have := (hok.sets k hlt).1.1 x hx; omega
      have ht := Lib.hid (take_snoc' g k hlt)
      have he : g[k] = row g k := by simp [row, hlt]
      have He := Lib.hid he
      clear he
      go_wp2_with (first
        | (go_at_call 102; refine (maskOf_any _ _ hin _ hnums).mono ?_; rintro e w2 ⟨rfl, rfl⟩)
        | (at_builtin; refine wpList_app1 ty_nets rfl rfl rfl hown rfl rfl (by omega) hszr ?_; intro v' w1 hown' hg _))
      go_roundw
      case rel =>
        refine ⟨k + 1, by omega, by go_num, ?_, below_grown hbel hown hg (Nat.le_refl _) hszr⟩
        rw [ht.out, netL, List.map_append, List.map_append, List.map_singleton, List.map_singleton, He.out]
        exact hown'
      case measure => simp [intOf]; omega
    · obtain rfl : k = g.length := by omega
      go_wp2
      go_ret
      rw [List.take_length] at hown
      exact ⟨_, rfl, hown, hbel⟩

set_option maxRecDepth 100000 in
set_option maxHeartbeats 400000 in
theorem all_any (p : Option Addr) (n c : Nat) (hn : n < 32) (w : World) :
    Calls Tryd.prog 98 #[.slice p n c] w fun e w' => e = .returned (.int .u32 ((2 ^ n - 1 : Nat) : Int)) ∧ w = w' := by
  go_enter Tryd.func98, Tryd.ntmps98
  go_wp2_with (go_at_call 176; refine (firstOf_any _ n rfl hn _).mono ?_; rintro e w2 ⟨rfl, rfl⟩)
  go_ret
  exact ⟨rfl, rfl⟩

/-- Two vertices are made neighbours. -/
def joinL (a : List Nat) (u v : Nat) : List Nat := let b := a.set u (a.getD u 0 ||| 2 ^ v); b.set v (b.getD v 0 ||| 2 ^ u)

set_option maxRecDepth 100000 in
set_option maxHeartbeats 1000000 in
theorem join_any (x : Value) (y z : Int) (a : List Nat) (u v base : Nat) (hy : y = u) (hz : z = v) (hu : u < a.length) (hv : v < a.length) (huv : u ≠ v) (h16 : a.length ≤ 16) (ha : ∀ s ∈ a, s < 65536) (w : World)
    (ho : w.ownsRow base 79 1 x a.length (a.map u32v)) :
    Calls Tryd.prog 84 #[x, .int .i64 y, .int .i64 z] w fun e w' => e = .returned (.tuple #[]) ∧
      w'.ownsRow base 79 1 x a.length ((joinL a u v).map u32v) ∧ w.grownBy w' x.ownBlock := by
  subst hy; subst hz
  rcases ho.2 with ⟨_, h0⟩ | ⟨g, cap, cur, rfl, _⟩
  · omega
  have hc1 := ho.cellAt u (by omega)
  have hf1 := ho.frozenAt u
  rw [List.getElem?_map, List.getElem?_eq_getElem hu] at hc1
  change w.cell? _ = some (.int .u32 (a[u] : Int)) at hc1
  have ha1 := ha _ (List.getElem_mem hu)
  have hor1 := or_u32 a[u] (2 ^ v) ha1 (pow_lt16 v (by omega))
  -- behind the first store
  obtain ⟨ho2, hg2⟩ := ho.stored u (.int .u32 ((a[u] ||| 2 ^ v : Nat) : Int))
  obtain ⟨b, hb⟩ : ∃ b, b = a.set u (a[u] ||| 2 ^ v) := ⟨_, rfl⟩
  have hbl : b.length = a.length := by rw [hb]; simp
  have hbm : (a.map u32v).set u (.int .u32 ((a[u] ||| 2 ^ v : Nat) : Int)) = b.map u32v := by rw [hb, List.map_set]; rfl
  rw [hbm] at ho2
  have hvb : v < b.length := by omega
  have hb16 : ∀ s ∈ b, s < 65536 := by
    intro s hs
    rw [hb] at hs
    rcases List.mem_or_eq_of_mem_set hs with h | h
    · exact ha s h
    · subst h; exact or_lt16 _ _ ha1 (pow_lt16 v (by omega))
  have hvu : v ≠ u := fun e => huv e.symm
  have hbv : b[v] = a[v] := by simp [hb, huv]
  have hc2 := ho.cellAt v (by omega)
  have hf2' := ho.frozenAt v
  have hf2 := ho2.frozenAt v
  rw [List.getElem?_map, List.getElem?_eq_getElem hv] at hc2
  change w.cell? _ = some (.int .u32 (a[v] : Int)) at hc2
  rw [← hbv] at hc2
  have hor2 := or_u32 b[v] (2 ^ u) (hb16 _ (List.getElem_mem hvb)) (pow_lt16 u (by omega))
  obtain ⟨ho3, hg3⟩ := ho2.stored v (.int .u32 ((b[v] ||| 2 ^ u : Nat) : Int))
  have hfin : (b.map u32v).set v (.int .u32 ((b[v] ||| 2 ^ u : Nat) : Int)) = (joinL a u v).map u32v := by
    have e1 : a.getD u 0 = a[u] := by simp [hu]
    have e2 : b.getD v 0 = b[v] := by simp [hvb]
    simp only [joinL, e1]
    rw [← hb, e2, List.map_set]; rfl
  rw [hfin] at ho3
  have H3 := Lib.hid ho3
  have hgr := Lib.hid (grown_trans hg2 hg3)
  have c1 := Lib.hid (fun w => one_any (v : Int) v rfl (by omega) w)
  have c2 := Lib.hid (fun w => one_any (u : Int) u rfl (by omega) w)
  clear ho3 hfin ho2 ho hbm hbl hb hb16 hbv hg2 hg3 hf2
  generalize 2 ^ v = pv at *
  generalize 2 ^ u = pu at *
  go_enter Tryd.func84, Tryd.ntmps84
  go_wp2
  go_region_with (go_at_call 135; refine (c1.out _).mono ?_; rintro e w2 ⟨rfl, rfl⟩)
  all_goals go_wp2
  all_goals go_region_with (go_at_call 135; refine (c2.out _).mono ?_; rintro e w2 ⟨rfl, rfl⟩)
  all_goals go_end0
  all_goals exact ⟨rfl, H3.out, hgr.out.os, hgr.out.tape, hgr.out.output, hgr.out.size, hgr.out.block⟩

end Go.Proofs.YtmakhapdlkbbnaaDoor
