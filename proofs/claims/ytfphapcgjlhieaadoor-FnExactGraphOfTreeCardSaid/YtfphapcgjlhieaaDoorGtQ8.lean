/- Walks: the program's GraphOk. -/
import Derived.Test.YtfphapcgjlhieaaDoorGtQ4
import Derived.Deep.RegionWith
namespace Go.Proofs.YtfphapcgjlhieaaDoor
open Go.RowKit

set_option maxRecDepth 100000 in
set_option maxHeartbeats 1000000 in
theorem increasing_any (v : Value) (xs : List Int) (n : Int) (h0 : 0 ≤ n) (h1 : n ≤ 1000000000) (w : World) (hx : Nums w 2 .i64 v xs) :
    Calls Tryd.prog 120 #[v, .int .i64 n] w fun e w' => e = .returned (.bool (dec (SetIn n xs))) ∧ w = w' := by
  obtain ⟨p, c, rfl, _, _, hn, hat⟩ := hx
  go_enter Tryd.func120, Tryd.ntmps120
  go_wp2
  go_loop [5, 6, 9] (fun _ _ i => ∃ k : Nat, k ≤ xs.length ∧ i = .int .i64 k ∧ SetIn n (xs.take k)) (fun _ _ i => xs.length - (intOf i).toNat)
  case atStart => exact ⟨0, Nat.zero_le _, rfl, by simpa using setIn_nil n⟩
  case round =>
    obtain ⟨k, hk, rfl, hset⟩ := hrel
    by_cases hlt : k < xs.length
    · obtain ⟨b, o, rfl, hcs⟩ := hat.cells (k := k) (by simpa using hlt)
      have hcell : w.cell? ⟨b, o + k, none⟩ = some (.int .i64 xs[k]) := hcs k _ (by simp [hlt])
      have hcell' : 0 < k → ∃ y, y = xs[k - 1]'(by omega) ∧ w.cell? ⟨b, o + (k - 1), none⟩ = some (.int .i64 y) := fun hk0 => ⟨_, rfl, hcs (k - 1) _ (by rw [List.getElem?_map, List.getElem?_eq_getElem (by omega)]; rfl)⟩
      have hstep := setIn_step (n := n) hlt
      clear hcs hat
      have Hset := Lib.hid hset
      have Hstep := Lib.hid hstep
      clear hset hstep
      by_cases hin : 0 ≤ xs[k] ∧ xs[k] ≤ n - 1
      · have hin' := dec_true hin
        by_cases hk0 : 0 < k
        · obtain ⟨y, hy, hcy⟩ := hcell' hk0
          clear hcell'
          have Hy := Lib.hid hy
          clear hy
          have e3 : 0 ≤ (k : Int) - 1 := by omega
          have e4 : ((k : Int) - 1).toNat = k - 1 := by omega
          by_cases hle : xs[k] ≤ y
          · go_wp2_with (go_at_call 64; refine (inRange_any _ _ _ _).mono ?_; rintro e w2 ⟨rfl, rfl⟩)
            go_ret
            exact ⟨ret_bool (false_dec fun h => by have h3 := (Hstep.out.1 (setIn_take h _)).2.2 hk0; have := Hy.out; omega), rfl⟩
          · go_wp2_with (go_at_call 64; refine (inRange_any _ _ _ _).mono ?_; rintro e w2 ⟨rfl, rfl⟩)
            go_round
            case rel => exact ⟨k + 1, by omega, by go_num, Hstep.out.2 ⟨Hset.out, by omega, fun _ => by have := Hy.out; omega⟩⟩
            case measure => simp [intOf]; omega
        · go_wp2_with (go_at_call 64; refine (inRange_any _ _ _ _).mono ?_; rintro e w2 ⟨rfl, rfl⟩)
          go_round
          case rel => exact ⟨k + 1, by omega, by go_num, Hstep.out.2 ⟨Hset.out, by omega, fun h => absurd h (by omega)⟩⟩
          case measure => simp [intOf]; omega
      · have hin' := dec_false hin
        have Hin := Lib.hid hin
        clear hin
        go_wp2_with (go_at_call 64; refine (inRange_any _ _ _ _).mono ?_; rintro e w2 ⟨rfl, rfl⟩)
        go_ret
        exact ⟨ret_bool (false_dec fun h => by have h3 := (Hstep.out.1 (setIn_take h _)).2.1; have := Hin.out; omega), rfl⟩
    · obtain rfl : k = xs.length := by omega
      go_wp2
      go_ret
      rw [List.take_length] at hset
      exact ⟨ret_bool (true_dec hset), rfl⟩

set_option maxRecDepth 100000 in
set_option maxHeartbeats 2000000 in
theorem implGraphOk_any (v : Value) (g : List (List Int)) (w : World) (hg : Gr w v g) :
    Calls Tryd.prog 63 #[v] w fun e w' => e = .returned (.bool (dec (GOk g))) ∧ Below w.heap.size w w' := by
  obtain ⟨u, rfl, hr⟩ := hg
  obtain ⟨p, c, rfl, _, _, hn⟩ := hr.shape
  obtain ⟨W1, hW1⟩ : ∃ W1, W1 = w.alloc (.cells #[.slice p g.length c] 26) := ⟨_, rfl⟩
  have hs1 : W1.heap.size = w.heap.size + 1 := by rw [hW1]; exact size_alloc _ _
  have hb1 : Below w.heap.size w W1 := by rw [hW1]; exact below_alloc _ _
  have hbox : W1.cell? ⟨w.heap.size, 0, none⟩ = some (.slice p g.length c) := by rw [hW1]; exact cell_new _ _ _
  have hr1 := hr.below hb1
  have HW1 := Lib.hid hW1
  have hs1' : w.heap.size < W1.heap.size := by omega
  clear hW1 hs1 hr
  by_cases hlen : 1 ≤ g.length ∧ g.length ≤ 16
  case neg =>
    have Hlen := Lib.hid hlen
    by_cases hl0 : g.length < 1
    all_goals
      have hl0' : (g.length : Int) < 1 ∨ (16 : Int) < g.length := by omega
      clear hlen
      go_enter Tryd.func63, Tryd.ntmps63
      go_wp2
      go_ret
      exact ⟨ret_bool (false_dec fun h => Hlen.out ⟨h.pos, h.le⟩), HW1.out ▸ hb1⟩
  obtain ⟨hl1, hl2⟩ := hlen
  go_enter Tryd.func63, Tryd.ntmps63
  go_wp2
  go_loopw [4, 5, 22] (fun _ _ i wr => ∃ k : Nat, k ≤ g.length ∧ i = .int .i64 k ∧ (∀ j, j < k → RowOk g j) ∧ W1 = wr) (fun _ _ i _ => g.length - (intOf i).toNat)
  case atStart => exact ⟨0, Nat.zero_le _, rfl, fun j hj => by omega, HW1.out⟩
  case round =>
    obtain ⟨k, hk, rfl, hrows, rfl⟩ := hrel
    have Hrows := Lib.hid hrows
    clear hrows
    by_cases hlt : k < g.length
    · obtain ⟨b, o, rp, rc, rfl, hcell, hnums⟩ := hr1.get hlt
      change W1.cell? _ = some (.slice rp (row g k).length rc) at hcell
      change Nums W1 _ _ (.slice rp (row g k).length rc) (row g k) at hnums
      by_cases hs : SetIn (g.length : Int) (row g k)
      · have hs' := dec_true hs
        by_cases hh : (k : Int) ∈ row g k
        · have hh' := dec_true hh
          have Hh := Lib.hid hh
          have Hs := Lib.hid hs
          clear hh hs
          go_wp2_with (first
            | (go_at_call 120; refine (increasing_any _ _ _ (by omega) (by omega) _ hnums).mono ?_; rintro e w3 ⟨rfl, rfl⟩)
            | (go_at_call 121; refine (contains_any _ _ _ _ hnums).mono ?_; rintro e w4 ⟨rfl, rfl⟩))
          go_ret
          exact ⟨ret_bool (false_dec fun h => (h.sets k hlt).2 Hh.out), hb1⟩
        · have hh' := dec_false hh
          have Hok := Lib.hid (show RowOk g k from ⟨hs, hh⟩)
          clear hh hs
          go_wp2_with (first
            | (go_at_call 120; refine (increasing_any _ _ _ (by omega) (by omega) _ hnums).mono ?_; rintro e w3 ⟨rfl, rfl⟩)
            | (go_at_call 121; refine (contains_any _ _ _ _ hnums).mono ?_; rintro e w4 ⟨rfl, rfl⟩))
          go_roundw
          case rel =>
            refine ⟨k + 1, by omega, by go_num, fun j hj => ?_, by trivial⟩
            by_cases e : j = k
            · subst e; exact Hok.out
            · exact Hrows.out j (by omega)
          case measure => simp [intOf]; omega
      · have hs' := dec_false hs
        have Hs := Lib.hid hs
        clear hs
        go_wp2_with (go_at_call 120; refine (increasing_any _ _ _ (by omega) (by omega) _ hnums).mono ?_; rintro e w3 ⟨rfl, rfl⟩)
        go_ret
        exact ⟨ret_bool (false_dec fun h => Hs.out (h.sets k hlt).1), hb1⟩
    · obtain rfl : k = g.length := by omega
      go_wp2
      go_loopw [6, 7, 9, 40, 45, 46, 47] (fun _ _ _ i _ _ _ wr => ∃ k : Nat, k ≤ g.length ∧ i = .int .i64 k ∧ (∀ j, j < k → BackTo g j (row g j).length) ∧ W1 = wr) (fun _ _ _ i _ _ _ _ => g.length - (intOf i).toNat)
      case atStart => exact ⟨0, Nat.zero_le _, rfl, fun j hj => by omega, rfl⟩
      case round =>
        obtain ⟨k, hk, rfl, hback, rfl⟩ := hrel
        have Hback := Lib.hid hback
        clear hback
        by_cases hlt : k < g.length
        · obtain ⟨b, o, rp, rc, rfl, hcell, hnums⟩ := hr1.get hlt
          change W1.cell? _ = some (.slice rp (row g k).length rc) at hcell
          change Nums W1 _ _ (.slice rp (row g k).length rc) (row g k) at hnums
          obtain ⟨_, _, hv, _, _, hnr, hat⟩ := hnums
          simp only [Value.slice.injEq, true_and] at hv
          obtain ⟨rfl, rfl⟩ := hv
          go_wp2
          go_loopw [9, 47] (fun _ i wr => ∃ j : Nat, j ≤ (row g k).length ∧ i = .int .i64 j ∧ BackTo g k j ∧ W1 = wr) (fun _ i _ => (row g k).length - (intOf i).toNat)
          case atStart => exact ⟨0, Nat.zero_le _, rfl, fun u hu => by simp at hu, rfl⟩
          case round =>
            obtain ⟨i, hi, rfl, hbk, rfl⟩ := hrel
            have Hbk := Lib.hid hbk
            clear hbk
            by_cases hlti : i < (row g k).length
            · obtain ⟨m, hm, hmn⟩ := row_bound (Hrows.out k hlt) hlti
              obtain ⟨b2, o2, rfl, hcell2⟩ := hat.num hlti
              rw [hm] at hcell2
              obtain ⟨b', o', rp', rc', he, hcell3, hnums3⟩ := hr1.get hmn
              simp only [Option.some.injEq, Addr.mk.injEq, and_true] at he
              obtain ⟨rfl, rfl⟩ := he
              change W1.cell? _ = some (.slice rp' (row g m).length rc') at hcell3
              change Nums W1 _ _ (.slice rp' (row g m).length rc') (row g m) at hnums3
              clear hat
              have Hm := Lib.hid hm
              clear hm
              by_cases hh : (k : Int) ∈ row g m
              · have hh' := dec_true hh
                have Hh := Lib.hid hh
                clear hh
                go_wp2_with (go_at_call 121; refine (contains_any _ _ _ _ hnums3).mono ?_; rintro e w4 ⟨rfl, rfl⟩)
                go_roundw
                case rel =>
                  refine ⟨i + 1, by omega, by go_num, backTo_step hlti Hbk.out ?_, by trivial⟩
                  rw [Hm.out, Int.toNat_natCast]; exact Hh.out
                case measure => simp [intOf]; omega
              · have hh' := dec_false hh
                have Hh := Lib.hid hh
                clear hh
                go_wp2_with (go_at_call 121; refine (contains_any _ _ _ _ hnums3).mono ?_; rintro e w4 ⟨rfl, rfl⟩)
                go_ret
                refine ⟨ret_bool (false_dec fun h => Hh.out ?_), hb1⟩
                have := h.both k hlt _ (List.getElem_mem hlti)
                rwa [Hm.out, Int.toNat_natCast] at this
            · obtain rfl : i = (row g k).length := by omega
              go_wp2
              go_roundw
              case rel =>
                refine ⟨k + 1, by omega, by go_num, fun j hj => ?_, by trivial⟩
                by_cases e : j = k
                · subst e; exact Hbk.out
                · exact Hback.out j (by omega)
              case measure => simp [intOf]; omega
        · obtain rfl : k = g.length := by omega
          go_wp2
          go_ret
          exact ⟨ret_bool (true_dec (gOk_of ⟨hl1, hl2⟩ Hrows.out Hback.out)), hb1⟩

end Go.Proofs.YtfphapcgjlhieaaDoor

/- Walks: sets of neighbours. -/
namespace Go.Proofs.YtfphapcgjlhieaaDoor
open Go.RowKit

/-- A set of vertices as a value. -/
def u32v (s : Nat) : Value := .int .u32 (s : Int)
/-- The sets of neighbours of a graph. -/
def netL (g : List (List Int)) : List Nat := g.map mask

theorem mask_take_lt16 {xs : List Int} (h : ∀ x ∈ xs, 0 ≤ x ∧ x < 16) (k : Nat) : mask (xs.take k) < 65536 :=
  mask_lt16 _ fun x hx => (h x (List.mem_of_mem_take hx)).2

theorem or_u32 (a b : Nat) (ha : a < 65536) (hb : b < 65536) : bits BinOp.or IntKind.u32 (a : Int) (b : Int) = ((a ||| b : Nat) : Int) := u32_or_nat a b (by omega) (by omega)

set_option maxRecDepth 100000 in
set_option maxHeartbeats 1000000 in
theorem maskOf_any (v : Value) (xs : List Int) (hr : ∀ x ∈ xs, 0 ≤ x ∧ x < 16) (w : World) (hx : Nums w 2 .i64 v xs) :
    Calls Tryd.prog 89 #[v] w fun e w' => e = .returned (.int .u32 ((mask xs : Nat) : Int)) ∧ w = w' := by
  obtain ⟨p, c, rfl, _, _, hn, hat⟩ := hx
  go_enter Tryd.func89, Tryd.ntmps89
  go_wp2
  go_loop [3, 5, 8] (fun o _ i => ∃ k : Nat, k ≤ xs.length ∧ i = .int .i64 k ∧ o = .int .u32 (mask (xs.take k))) (fun _ _ i => xs.length - (intOf i).toNat)
  case atStart => exact ⟨0, Nat.zero_le _, rfl, rfl⟩
  case round =>
    obtain ⟨k, hk, rfl, rfl⟩ := hrel
    by_cases hlt : k < xs.length
    · obtain ⟨b, o, rfl, hcell⟩ := hat.num hlt
      have hb := hr _ (List.getElem_mem hlt)
      obtain ⟨m, hm⟩ : ∃ m : Nat, xs[k] = (m : Int) := ⟨xs[k].toNat, by omega⟩
      have hor := Lib.hid (or_u32 (mask (xs.take k)) (2 ^ m) (mask_take_lt16 hr k) (pow_lt16 m (by omega)))
      have hsn : mask (xs.take (k + 1)) = mask (xs.take k) ||| 2 ^ m := by rw [take_snoc' _ k hlt, mask_snoc, hm, Int.toNat_natCast]
      have Hsn := Lib.hid hsn
      have hm16 : m < 32 := by omega
      rw [hm] at hcell
      clear hsn hm hb hat hr
      generalize mask (xs.take k) = M at *
      go_wp2_with (go_at_call 98; refine (one_any _ m rfl hm16 _).mono ?_; rintro e w2 ⟨rfl, rfl⟩)
      go_round
      case rel => exact ⟨k + 1, by omega, by go_num, val_int (by rw [Hsn.out]; exact hor.out)⟩
      case measure => simp [intOf]; omega
    · obtain rfl : k = xs.length := by omega
      rw [List.take_length]
      go_wp2
      go_ret
      exact ⟨rfl, rfl⟩

theorem netL_lt {g : List (List Int)} (h : GOk g) : ∀ s ∈ netL g, s < 65536 := by
  intro s hs
  obtain ⟨r, hr, rfl⟩ := List.mem_map.1 hs
  obtain ⟨i, hi, rfl⟩ := List.mem_iff_getElem.1 hr
  have h1 := (h.sets i hi).1
  have e : row g i = g[i] := by simp [row, hi]
  rw [e] at h1
  exact mask_lt16 _ fun x hx => by have := (h1.1 x hx).2; have := h.le; omega

set_option maxRecDepth 100000 in
set_option maxHeartbeats 1000000 in
theorem netsOf_any (v : Value) (g : List (List Int)) (w : World) (hg : Gr w v g) (hok : GOk g) :
    Calls Tryd.prog 67 #[v] w fun e w' => ∃ u, e = .returned u ∧
      w'.ownsRow w.heap.size 76 1 u g.length ((netL g).map u32v) ∧ Below w.heap.size w w' := by
  obtain ⟨u, rfl, hr⟩ := hg
  obtain ⟨p, c, rfl, _, _, hn⟩ := hr.shape
  have h16 := hok.le
  have hbb := below_alloc w (.cells #[.slice p g.length c] 26)
  have hbox := cell_new w (.slice p g.length c) 26
  go_enter Tryd.func67, Tryd.ntmps67
  go_wp2
  go_loopw [3, 5, 10] (fun o _ i wr => ∃ k : Nat, k ≤ g.length ∧ i = .int .i64 k ∧ wr.ownsRow w.heap.size 76 1 o k ((netL (g.take k)).map u32v) ∧ Below w.heap.size w wr) (fun _ _ i _ => g.length - (intOf i).toNat)
  case atStart => exact ⟨0, Nat.zero_le _, rfl, ownsRow_empty' _ _ _ _ _ (by omega), hbb.alloc (by rw [size_alloc]; omega) _⟩
  case round =>
    clear hbox hbb
    obtain ⟨k, hk, rfl, hown, hbel⟩ := hrel
    have hszr := hbel.size
    by_cases hlt : k < g.length
    · obtain ⟨b, o, rp, rc, rfl, hcell, hnums⟩ := (hr.below hbel).get hlt
      change wr.cell? _ = some (.slice rp (row g k).length rc) at hcell
      change Nums wr _ _ (.slice rp (row g k).length rc) (row g k) at hnums
      have hin : ∀ x ∈ row g k, 0 ≤ x ∧ x < 16 := fun x hx => by have := (hok.sets k hlt).1.1 x hx; omega
      have ht := Lib.hid (take_snoc' g k hlt)
      have he : g[k] = row g k := by simp [row, hlt]
      have He := Lib.hid he
      clear he
      go_wp2_with (first
        | (go_at_call 89; refine (maskOf_any _ _ hin _ hnums).mono ?_; rintro e w2 ⟨rfl, rfl⟩)
        | (at_builtin; refine wpList_app1 ty_nets rfl rfl rfl hown rfl rfl (by omega) hszr ?_; intro v' w1 hown' hg _))
      go_roundw
      case rel =>
        refine ⟨k + 1, by omega, by go_num, ?_, below_grown hbel hown hg (Nat.le_refl _) hszr⟩
        rw [ht.out, netL, List.map_append, List.map_append, List.map_singleton, List.map_singleton, He.out]
        exact hown'
      case measure => simp [intOf]; omega
    · obtain rfl : k = g.length := by omega
      go_wp2
      go_ret
      rw [List.take_length] at hown
      exact ⟨_, rfl, hown, hbel⟩

set_option maxRecDepth 100000 in
set_option maxHeartbeats 400000 in
theorem all_any (p : Option Addr) (n c : Nat) (hn : n < 32) (w : World) :
    Calls Tryd.prog 74 #[.slice p n c] w fun e w' => e = .returned (.int .u32 ((2 ^ n - 1 : Nat) : Int)) ∧ w = w' := by
  go_enter Tryd.func74, Tryd.ntmps74
  go_wp2_with (go_at_call 90; refine (firstOf_any _ n rfl hn _).mono ?_; rintro e w2 ⟨rfl, rfl⟩)
  go_ret
  exact ⟨rfl, rfl⟩

/-- Two vertices are made neighbours. -/
def joinL (a : List Nat) (u v : Nat) : List Nat := let b := a.set u (a.getD u 0 ||| 2 ^ v); b.set v (b.getD v 0 ||| 2 ^ u)

set_option maxRecDepth 100000 in
set_option maxHeartbeats 1000000 in
theorem join_any (x : Value) (y z : Int) (a : List Nat) (u v base : Nat) (hy : y = u) (hz : z = v) (hu : u < a.length) (hv : v < a.length) (huv : u ≠ v) (h16 : a.length ≤ 16) (ha : ∀ s ∈ a, s < 65536) (w : World)
    (ho : w.ownsRow base 76 1 x a.length (a.map u32v)) :
    Calls Tryd.prog 51 #[x, .int .i64 y, .int .i64 z] w fun e w' => e = .returned (.tuple #[]) ∧
      w'.ownsRow base 76 1 x a.length ((joinL a u v).map u32v) ∧ w.grownBy w' x.ownBlock := by
  subst hy; subst hz
  rcases ho.2 with ⟨_, h0⟩ | ⟨g, cap, cur, rfl, _⟩
  · omega
  have hc1 := ho.cellAt u (by omega)
  have hf1 := ho.frozenAt u
  rw [List.getElem?_map, List.getElem?_eq_getElem hu] at hc1
  change w.cell? _ = some (.int .u32 (a[u] : Int)) at hc1
  have ha1 := ha _ (List.getElem_mem hu)
  have hor1 := or_u32 a[u] (2 ^ v) ha1 (pow_lt16 v (by omega))
  -- behind the first store
  obtain ⟨ho2, hg2⟩ := ho.stored u (.int .u32 ((a[u] ||| 2 ^ v : Nat) : Int))
  obtain ⟨b, hb⟩ : ∃ b, b = a.set u (a[u] ||| 2 ^ v) := ⟨_, rfl⟩
  have hbl : b.length = a.length := by rw [hb]; simp
  have hbm : (a.map u32v).set u (.int .u32 ((a[u] ||| 2 ^ v : Nat) : Int)) = b.map u32v := by rw [hb, List.map_set]; rfl
  rw [hbm] at ho2
  have hvb : v < b.length := by omega
  have hb16 : ∀ s ∈ b, s < 65536 := by
    intro s hs
    rw [hb] at hs
    rcases List.mem_or_eq_of_mem_set hs with h | h
    · exact ha s h
    · subst h; exact or_lt16 _ _ ha1 (pow_lt16 v (by omega))
  have hvu : v ≠ u := fun e => huv e.symm
  have hbv : b[v] = a[v] := by simp [hb, huv]
  have hc2 := ho.cellAt v (by omega)
  have hf2' := ho.frozenAt v
  have hf2 := ho2.frozenAt v
  rw [List.getElem?_map, List.getElem?_eq_getElem hv] at hc2
  change w.cell? _ = some (.int .u32 (a[v] : Int)) at hc2
  rw [← hbv] at hc2
  have hor2 := or_u32 b[v] (2 ^ u) (hb16 _ (List.getElem_mem hvb)) (pow_lt16 u (by omega))
  obtain ⟨ho3, hg3⟩ := ho2.stored v (.int .u32 ((b[v] ||| 2 ^ u : Nat) : Int))
  have hfin : (b.map u32v).set v (.int .u32 ((b[v] ||| 2 ^ u : Nat) : Int)) = (joinL a u v).map u32v := by
    have e1 : a.getD u 0 = a[u] := by simp [hu]
    have e2 : b.getD v 0 = b[v] := by simp [hvb]
    simp only [joinL, e1]
    rw [← hb, e2, List.map_set]; rfl
  rw [hfin] at ho3
  have H3 := Lib.hid ho3
  have hgr := Lib.hid (grown_trans hg2 hg3)
  have c1 := Lib.hid (fun w => one_any (v : Int) v rfl (by omega) w)
  have c2 := Lib.hid (fun w => one_any (u : Int) u rfl (by omega) w)
  clear ho3 hfin ho2 ho hbm hbl hb hb16 hbv hg2 hg3 hf2
  generalize 2 ^ v = pv at *
  generalize 2 ^ u = pu at *
  go_enter Tryd.func51, Tryd.ntmps51
  go_wp2
  go_region_with (go_at_call 98; refine (c1.out _).mono ?_; rintro e w2 ⟨rfl, rfl⟩)
  all_goals go_wp2
  all_goals go_region_with (go_at_call 98; refine (c2.out _).mono ?_; rintro e w2 ⟨rfl, rfl⟩)
  all_goals go_end0
  all_goals exact ⟨rfl, H3.out, hgr.out.os, hgr.out.tape, hgr.out.output, hgr.out.size, hgr.out.block⟩

end Go.Proofs.YtfphapcgjlhieaaDoor
