/- Walks: the laws' own tests of lists: has, alike, all alike; a rising list with one more. -/
import Derived.Test.YtkppbmfliejnmaaDoorLpQ8
import Derived.Test.YtkppbmfliejnmaaDoorLpQ38
import Derived.Deep.RegionHeld3
import Derived.Deep.DeepCutAuto
import Derived.Test.YtkppbmfliejnmaaDoorLpQ26
namespace Go.Proofs.YtkppbmfliejnmaaDoor
open Go.RowKit

set_option maxRecDepth 100000 in
set_option maxHeartbeats 400000 in
theorem w9Has_any (v : Value) (xs : List Int) (n : Int) (w : World) (hx : Nums w 2 .i64 v xs) :
    Calls Tryd.prog 81 #[v, .int .i64 n] w fun e w' => e = .returned (.bool (dec (n ∈ xs))) ∧ w = w' := by
  obtain ⟨p, c, rfl, _, _, hn, hat⟩ := hx
  go_enter Tryd.func81, Tryd.ntmps81
  go_wp2
  go_loop [5] (fun i => ∃ k : Nat, k ≤ xs.length ∧ i = .int .i64 k ∧ n ∉ xs.take k) (fun i => xs.length - (intOf i).toNat)
  case atStart => exact ⟨0, Nat.zero_le _, rfl, by simp⟩
  case round =>
    obtain ⟨k, hk, rfl, hnk⟩ := hrel
    by_cases hlt : k < xs.length
    · obtain ⟨b, o, rfl, hcell⟩ := hat.num hlt
      clear hat
      by_cases he : xs[k] = n
      · have he' : (xs[k] == n) = true := by simpa using he
        have H := Lib.hid he
        clear he
        go_wp2
        go_ret
        exact ⟨ret_bool (true_dec (mem_of_getElem hlt H.out)), rfl⟩
      · have he' : (xs[k] == n) = false := by simpa using he
        go_wp2
        go_round
        case rel => exact ⟨k + 1, by omega, by go_num, not_mem_take_succ hlt hnk he⟩
        case measure => simp [intOf]; omega
    · obtain rfl : k = xs.length := by omega
      go_wp2
      go_ret
      rw [List.take_length] at hnk
      exact ⟨ret_bool (false_dec hnk), rfl⟩

set_option maxRecDepth 100000 in
set_option maxHeartbeats 400000 in
theorem w6Has_any (v : Value) (xs : List Int) (n : Int) (w : World) (hx : Nums w 2 .i64 v xs) :
    Calls Tryd.prog 34 #[v, .int .i64 n] w fun e w' => e = .returned (.bool (dec (n ∈ xs))) ∧ w = w' := by
  obtain ⟨p, c, rfl, _, _, hn, hat⟩ := hx
  go_enter Tryd.func34, Tryd.ntmps34
  go_wp2
  go_loop [5] (fun i => ∃ k : Nat, k ≤ xs.length ∧ i = .int .i64 k ∧ n ∉ xs.take k) (fun i => xs.length - (intOf i).toNat)
  case atStart => exact ⟨0, Nat.zero_le _, rfl, by simp⟩
  case round =>
    obtain ⟨k, hk, rfl, hnk⟩ := hrel
    by_cases hlt : k < xs.length
    · obtain ⟨b, o, rfl, hcell⟩ := hat.num hlt
      clear hat
      by_cases he : xs[k] = n
      · have he' : (xs[k] == n) = true := by simpa using he
        have H := Lib.hid he
        clear he
        go_wp2
        go_ret
        exact ⟨ret_bool (true_dec (mem_of_getElem hlt H.out)), rfl⟩
      · have he' : (xs[k] == n) = false := by simpa using he
        go_wp2
        go_round
        case rel => exact ⟨k + 1, by omega, by go_num, not_mem_take_succ hlt hnk he⟩
        case measure => simp [intOf]; omega
    · obtain rfl : k = xs.length := by omega
      go_wp2
      go_ret
      rw [List.take_length] at hnk
      exact ⟨ret_bool (false_dec hnk), rfl⟩

set_option maxRecDepth 100000 in
set_option maxHeartbeats 1000000 in
theorem likeQ_any (u v : Value) (xs ys : List Int) (w : World) (hx : Nums w 2 .i64 u xs) (hy : Nums w 2 .i64 v ys) :
    Calls Tryd.prog 26 #[u, v] w fun e w' => e = .returned (.bool (dec (xs = ys))) ∧ ∃ q, w' = w.drewN q := by
  obtain ⟨p, c, rfl, hp, _, hn, hat⟩ := hx
  obtain ⟨p', c', rfl, hp', _, hn', hat'⟩ := hy
  by_cases hl : xs.length = ys.length
  case neg =>
    have hl' : ((xs.length : Int) != (ys.length : Int)) = true := by simp; omega
    go_enter Tryd.func26, Tryd.ntmps26
    go_wp2
    go_ret
    exact ⟨ret_bool (false_dec fun h => hl (by rw [h])), 0, rfl⟩
  have Hl := Lib.hid hl
  have hl' : ((xs.length : Int) != (ys.length : Int)) = false := by simp; omega
  clear hl
  go_enter Tryd.func26, Tryd.ntmps26
  go_wp2
  go_loopw [5] (fun i wr => ∃ k : Nat, k ≤ xs.length ∧ i = .int .i64 k ∧ xs.take k = ys.take k ∧ ∃ q, wr = w.drewN q) (fun i _ => xs.length - (intOf i).toNat)
  case atStart => exact ⟨0, Nat.zero_le _, rfl, by simp, 0, rfl⟩
  case round =>
    obtain ⟨k, hk, rfl, heq, q, rfl⟩ := hrel
    have Heq := Lib.hid heq
    clear heq
    by_cases hlt : k < xs.length
    · have hlt' : k < ys.length := by have := Hl.out; omega
      obtain ⟨b, o, rfl, hcell⟩ := hat.num hlt
      obtain ⟨b', o', rfl, hcell'⟩ := hat'.num hlt'
      clear hat hat'
      have e0 : (0 : Int) ≤ (k : Int) := by omega
      have e1 : (k : Int) < (xs.length : Int) := by omega
      have e2 : (k : Int) < (ys.length : Int) := by omega
      by_cases he : xs[k] = ys[k]
      · have he' : (xs[k] != ys[k]) = false := by simpa using he
        have He := Lib.hid he
        clear he
        go_wp2
        go_quiet (fail)
        go_wp2
        go_roundw
        case rel => exact ⟨k + 1, by omega, by go_num, by rw [take_snoc xs k hlt, take_snoc ys k hlt', Heq.out, He.out], _, rfl⟩
        case measure => simp [intOf]; omega
      · have he' : (xs[k] != ys[k]) = true := by simpa using he
        have He := Lib.hid he
        clear he
        go_wp2
        go_quiet (fail)
        go_wp2
        go_ret
        exact ⟨ret_bool (false_dec fun h => He.out (by subst h; rfl)), _, World.drewN_drewN _ _ _⟩
    · obtain rfl : k = xs.length := by omega
      go_wp2
      go_ret
      refine ⟨ret_bool (true_dec ?_), q, rfl⟩
      have h := Heq.out
      rwa [List.take_length, Hl.out, List.take_length] at h

theorem likeInts_any (u v : Value) (xs ys : List Int) (w : World) (hx : Nums w 2 .i64 u xs) (hy : Nums w 2 .i64 v ys) :
    Calls Tryd.prog 26 #[u, v] w fun e w' => e = .returned (.bool (dec (xs = ys))) ∧ Below w.heap.size w w' :=
  (likeQ_any u v xs ys w hx hy).mono fun _ _ ⟨h1, q, h2⟩ => ⟨h1, h2 ▸ below_dN (Below.refl _ _) q⟩

theorem intoL_app {v x : Int} : ∀ {l : List Int}, (∃ y ∈ l, ¬ y < v) → intoL (l ++ [x]) v = intoL l v ++ [x]
  | [], h => by obtain ⟨y, hy, _⟩ := h; simp at hy
  | a :: l, h => by
    rw [List.cons_append]
    unfold intoL
    by_cases h1 : a < v
    · rw [if_pos h1, if_pos h1, intoL_app (l := l) (by
        obtain ⟨y, hy, h2⟩ := h
        rcases List.mem_cons.1 hy with rfl | hy
        · exact absurd h1 h2
        · exact ⟨y, hy, h2⟩)]
      rfl
    · rw [if_neg h1, if_neg h1]
      split <;> rfl
theorem intoL_low {v : Int} : ∀ {l : List Int}, (∀ y ∈ l, y < v) → intoL l v = l ++ [v]
  | [], _ => rfl
  | a :: l, h => by
    unfold intoL
    rw [if_pos (h a (List.mem_cons_self ..)), intoL_low fun y hy => h y (List.mem_cons_of_mem _ hy)]
    rfl
theorem intoL_at {v : Int} : ∀ {l : List Int}, (∀ y ∈ l, y < v) → intoL (l ++ [v]) v = l ++ [v]
  | [], _ => by simp [intoL]
  | a :: l, h => by
    rw [List.cons_append]
    unfold intoL
    rw [if_pos (h a (List.mem_cons_self ..)), intoL_at fun y hy => h y (List.mem_cons_of_mem _ hy)]
theorem intoL_up {v x : Int} (hx : v < x) : ∀ {l : List Int}, (∀ y ∈ l, y < v) → intoL (l ++ [x]) v = l ++ [v] ++ [x]
  | [], _ => by
    have h1 : ¬ x < v := by omega
    have h2 : ¬ x = v := by omega
    simp [intoL, h1, h2]
  | a :: l, h => by
    rw [List.cons_append]
    unfold intoL
    rw [if_pos (h a (List.mem_cons_self ..)), intoL_up hx fun y hy => h y (List.mem_cons_of_mem _ hy)]
    rfl

end Go.Proofs.YtkppbmfliejnmaaDoor

/- Walks: what is drawn for the laws on parts and edges; lists of lists that are alike; two sets put together. -/
namespace Go.Proofs.YtkppbmfliejnmaaDoor
open Go.RowKit

/-- The numbers of both, below sixteen. -/
def bothN (A B : List Nat) (k : Nat) : List Nat := (List.range k).filter fun v => decide (v ∈ A ++ B)
theorem bothN_succ (A B : List Nat) (k : Nat) : bothN A B (k + 1) = if k ∈ A ++ B then bothN A B k ++ [k] else bothN A B k := by
  unfold bothN
  rw [List.range_succ, List.filter_append]
  by_cases h : k ∈ A ++ B
  · rw [if_pos h, List.filter_cons, if_pos (decide_eq_true h)]; rfl
  · rw [if_neg h, List.filter_cons, if_neg (by simpa using h)]; simp
theorem bothN_len (A B : List Nat) (k : Nat) : (bothN A B k).length ≤ k := Nat.le_trans (List.length_filter_le _ _) (by simp)
theorem mem_bothN {A B : List Nat} {k x : Nat} : x ∈ bothN A B k ↔ x < k ∧ (x ∈ A ∨ x ∈ B) := by simp [bothN]

set_option maxRecDepth 100000 in
set_option maxHeartbeats 4000000 in
theorem w5Both_any (u v : Value) (A B : List Nat) (hA : A.length ≤ 1000) (hB : B.length ≤ 1000) (w : World) (hx : Nums w 2 .i64 u (natInts A)) (hy : Nums w 2 .i64 v (natInts B)) :
    Calls Tryd.prog 74 #[u, v] w fun e w' => ∃ r, e = .returned r ∧ w'.ownsRow w.heap.size 2 1 r (bothN A B 16).length ((natInts (bothN A B 16)).map (Value.int .i64)) ∧ Below w.heap.size w w' := by
  obtain ⟨p, c, rfl, _⟩ := id hx.shape
  obtain ⟨q, d, rfl, _⟩ := id hy.shape
  have HX := Lib.hid hx
  have HY := Lib.hid hy
  clear hx hy
  simp only [natInts_length] at *
  go_enter Tryd.func74, Tryd.ntmps74
  go_wp2
  go_loopw [5, 6, 7] (fun o v _ wr => ∃ k : Nat, k ≤ 16 ∧ v = .int .i64 k ∧ Hid (wr.ownsRow w.heap.size 2 1 o (bothN A B k).length ((natInts (bothN A B k)).map (Value.int .i64))) ∧ Hid (Below w.heap.size w wr)) (fun _ v _ _ => 16 - (intOf v).toNat)
  case atStart => exact ⟨0, Nat.zero_le _, rfl, Lib.hid (ownsRow_empty _ _ _), Lib.hid (below_alloc _ _)⟩
  case round =>
    obtain ⟨k, hk, rfl, HO, HB⟩ := hrel
    by_cases hlt : k < 16
    · have hki : (k : Int) < 16 := by omega
      have hbl := bothN_len A B k
      have hsz := HB.out.size
      have HSU := Lib.hid (bothN_succ A B k)
      obtain ⟨wo, hwo⟩ : ∃ wo, wo = wr := ⟨_, rfl⟩
      go_wp2
      go_loopw [5, 7] (fun o i wx => ∃ j : Nat, j ≤ A.length + B.length ∧ i = .int .i64 j ∧ Hid (∀ x ∈ (A ++ B).take j, x ≠ k) ∧ Hid (wx.ownsRow w.heap.size 2 1 o (bothN A B k).length ((natInts (bothN A B k)).map (Value.int .i64))) ∧ wx = wo) (fun _ i _ => A.length + B.length - (intOf i).toNat)
      case atStart => exact ⟨0, Nat.zero_le _, rfl, Lib.hid (by simp), HO, hwo.symm⟩
      case round =>
        clear HO
        obtain ⟨j, hj, rfl, HN, HO, hw⟩ := hrel
        have hown := HO.out
        subst hw
        subst hwo
        have hwsum : IntKind.i64.wrap ((A.length : Int) + (B.length : Int)) = (A.length : Int) + (B.length : Int) := by rw [IntKind.wrap_i64]; omega
        have hfound : Hid (∀ x, x ∈ A ++ B → x = k → bothN A B (k + 1) = bothN A B k ++ [k]) := Lib.hid (fun x hx e => by rw [HSU.out, if_pos (e ▸ hx)])
        by_cases hjA : j < A.length
        · have e1 : (j : Int) < (A.length : Int) := by omega
          have e2 : (j : Int) < (A.length : Int) + (B.length : Int) := by omega
          have e3 : ¬ (A.length : Int) ≤ (j : Int) := by omega
          obtain ⟨b, o, hp, hc⟩ := (HX.out.below HB.out).get (k := j) (by rw [natInts_length]; exact hjA)
          subst hp
          have hcn : (natInts A)[j]'(by rw [natInts_length]; exact hjA) = ((A[j] : Nat) : Int) := by simp [natInts]
          rw [hcn] at hc
          have HT : Hid ((A ++ B).take (j + 1) = (A ++ B).take j ++ [A[j]]) := Lib.hid (by rw [take_snoc (A ++ B) j (by rw [List.length_append]; omega), List.getElem_append_left hjA])
          have HM : Hid (A[j] ∈ A ++ B) := Lib.hid (List.mem_append_left _ (List.getElem_mem hjA))
          generalize A[j] = x at hc HT HM
          clear hcn
          by_cases hxe : x = k
          · have hxe' : ((x : Int) == (k : Int)) = true := by simp [hxe]
            have HF := Lib.hid (hfound.out x HM.out hxe)
            clear hxe
            go_wp2_with (at_builtin; refine wpList_app1 ty_i64 rfl rfl rfl hown rfl rfl (by omega) hsz ?_; intro v' wz hown' hgz _)
            go_roundw
            case rel => exact ⟨k + 1, by omega, by go_num, Lib.hid (by rw [HF.out, List.length_append]; simpa [natInts] using hown'), Lib.hid (below_grown HB.out hown hgz (Nat.le_refl _) hsz)⟩
            case measure => simp [intOf]; omega
          · have hxe' : ((x : Int) == (k : Int)) = false := beq_eq_false_iff_ne.2 (by omega)
            have HNX : Hid (∀ y ∈ (A ++ B).take (j + 1), y ≠ k) := Lib.hid (fun y hy => by
              rw [HT.out] at hy
              rcases List.mem_append.1 hy with hy | hy
              · exact HN.out y hy
              · obtain rfl : y = x := by simpa using hy
                exact hxe)
            clear hxe
            go_wp2
            go_roundw
            case rel => exact ⟨j + 1, by omega, by go_num, HNX, HO, trivial⟩
            case measure => simp [intOf]; omega
        · obtain ⟨t, rfl⟩ : ∃ t, j = A.length + t := ⟨j - A.length, by omega⟩
          by_cases hjB : t < B.length
          · have e0 : ((A.length + t : Nat) : Int) = (A.length : Int) + (t : Int) := by omega
            rw [e0]
            have e1 : ¬ (A.length : Int) + (t : Int) < (A.length : Int) := by omega
            have e2 : (A.length : Int) + (t : Int) < (A.length : Int) + (B.length : Int) := by omega
            have e3 : (A.length : Int) ≤ (A.length : Int) + (t : Int) := by omega
            have hws : IntKind.i64.wrap ((A.length : Int) + (t : Int) - (A.length : Int)) = (t : Int) := by rw [IntKind.wrap_i64]; omega
            obtain ⟨b, o, hp, hc⟩ := (HY.out.below HB.out).get (k := t) (by rw [natInts_length]; exact hjB)
            subst hp
            have hcn : (natInts B)[t]'(by rw [natInts_length]; exact hjB) = ((B[t] : Nat) : Int) := by simp [natInts]
            rw [hcn] at hc
            have HT : Hid ((A ++ B).take (A.length + t + 1) = (A ++ B).take (A.length + t) ++ [B[t]]) := Lib.hid (by rw [take_snoc (A ++ B) (A.length + t) (by rw [List.length_append]; omega), List.getElem_append_right (by omega)]; congr 2; simp)
            have HM : Hid (B[t] ∈ A ++ B) := Lib.hid (List.mem_append_right _ (List.getElem_mem hjB))
            generalize B[t] = x at hc HT HM
            clear hcn
            by_cases hxe : x = k
            · have hxe' : ((x : Int) == (k : Int)) = true := by simp [hxe]
              have HF := Lib.hid (hfound.out x HM.out hxe)
              clear hxe
              go_wp2_with (at_builtin; refine wpList_app1 ty_i64 rfl rfl rfl hown rfl rfl (by omega) hsz ?_; intro v' wz hown' hgz _)
              go_roundw
              case rel => exact ⟨k + 1, by omega, by go_num, Lib.hid (by rw [HF.out, List.length_append]; simpa [natInts] using hown'), Lib.hid (below_grown HB.out hown hgz (Nat.le_refl _) hsz)⟩
              case measure => simp [intOf]; omega
            · have hxe' : ((x : Int) == (k : Int)) = false := beq_eq_false_iff_ne.2 (by omega)
              have HNX : Hid (∀ y ∈ (A ++ B).take (A.length + t + 1), y ≠ k) := Lib.hid (fun y hy => by
                rw [HT.out] at hy
                rcases List.mem_append.1 hy with hy | hy
                · exact HN.out y hy
                · obtain rfl : y = x := by simpa using hy
                  exact hxe)
              clear hxe
              go_wp2
              go_roundw
              case rel => exact ⟨A.length + t + 1, by omega, by go_num, HNX, HO, trivial⟩
              case measure => simp [intOf]; omega
          · obtain rfl : t = B.length := by omega
            have e0 : ((A.length + B.length : Nat) : Int) = (A.length : Int) + (B.length : Int) := by omega
            rw [e0]
            have hno : bothN A B (k + 1) = bothN A B k := by
              rw [HSU.out, if_neg]
              intro hm
              have := HN.out k (by rw [List.take_of_length_le (by rw [List.length_append]; omega)]; exact hm)
              exact this rfl
            have HNO := Lib.hid hno
            clear hno
            go_wp2
            go_roundw
            case rel => exact ⟨k + 1, by omega, by go_num, Lib.hid (by rw [HNO.out]; exact hown), HB⟩
            case measure => simp [intOf]; omega
    · obtain rfl : k = 16 := by omega
      go_wp2
      go_ret
      exact ⟨_, rfl, HO.out, HB.out⟩

end Go.Proofs.YtkppbmfliejnmaaDoor

/- Walks: a graph and two numbers, drawn (l1From, l1DrawPair, DrawCutEdge, DrawContracted). -/
namespace Go.Proofs.YtkppbmfliejnmaaDoor
open Go.RowKit

theorem Gr.curedC {w0 w w' : World} {cb : Nat} {bs : List Int} (h : Cur w0 w cb bs) (hg : w.grownBy w' (some cb)) {v : Value} {g : List (List Int)} (hs : Gr w v g) : Gr w' v g := by
  obtain ⟨u, rfl, vals, h1, h2, h3⟩ := hs
  exact ⟨u, rfl, vals, h1, Sl.cured h hg (by decide) h2, fun j hj => Sl.cured h hg (by decide) (h3 j hj)⟩
theorem PrsO.curedC {w0 w w' : World} {cb base : Nat} {bs : List Int} (h : Cur w0 w cb bs) (hg : w.grownBy w' (some cb)) {v : Value} {l : List (Nat × Nat)} (hs : PrsO w base v l) : PrsO w' base v l := by
  obtain ⟨vals, h1, h2, h3⟩ := hs
  exact ⟨vals, h1, ownsRow_cured h hg (by decide) h2, fun j hj => Sl.cured h hg (by decide) (h3 j hj)⟩

set_option maxRecDepth 100000 in
set_option maxHeartbeats 1000000 in
theorem l1From_any (w0 : World) (cb : Nat) (bs : List Int) (hi : Int) (h0 : 0 ≤ hi) (h1 : hi ≤ 1000) (w : World) (hc : Cur w0 w cb bs) :
    Calls Tryd.prog 155 #[.pointer (some ⟨cb, 0, none⟩), .int .i64 (-1), .int .i64 hi] w fun e w' => ∃ z : Int, e = .returned (.int .i64 z) ∧ Cur w0 w' cb bs ∧ w.grownBy w' (some cb) := by
  have HC := Lib.hid hc
  have hwr : IntKind.i64.wrap (hi - (-1)) = hi + 1 := by rw [IntKind.wrap_i64]; omega
  have hwr1 : IntKind.i64.wrap (hi + 1) = hi + 1 := by rw [IntKind.wrap_i64]; omega
  have hwr2 : IntKind.i64.wrap (hi + 1 + 1) = hi + 2 := by rw [IntKind.wrap_i64]; omega
  clear hc
  go_enter Tryd.func155, Tryd.ntmps155
  go_wp2_with (go_at_call 148; refine (l1Below_any w0 cb bs (hi + 2) (by omega) _ HC.out).mono ?_; rintro e w2 ⟨r, rfl, _, _, hc2, hg2⟩; have HC2 := Lib.hid hc2; have HG2 := Lib.hid hg2; clear hc2 hg2)
  go_ret
  exact ⟨_, rfl, HC2.out, HG2.out⟩

theorem edgesE_bound {g : List (List Int)} {w : World} {be : Nat} {u : Value} (hp : (GOk g ∧ PrsO w be u (edN g.length (ofG g) g.length)) ∨ (¬ GOk g ∧ PrsO w be u [])) : ∃ l : List (Nat × Nat), l.length ≤ 256 ∧ PrsO w be u l := by
  rcases hp with h | h
  · refine ⟨_, ?_, h.2⟩
    have h1 := edN_length g.length (ofG g) g.length
    have h16 := h.1.le
    have : g.length * g.length ≤ 16 * 16 := Nat.mul_le_mul h16 h16
    omega
  · exact ⟨[], by simp, h.2⟩

end Go.Proofs.YtkppbmfliejnmaaDoor
