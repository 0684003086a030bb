/- Walks: the reference's fold of a vertex. -/
import Derived.Test.YtfokiijcpkhllaaDoorFuQ3
import Derived.Deep.RegionHeld3
import Derived.Deep.DeepCutAuto
import Derived.Deep.RegionWith
namespace Go.Proofs.YtfokiijcpkhllaaDoor
open Go.RowKit

def fdVal (f : Fd) : Value := .agg #[.int .i64 f.V, .int .i64 f.A, .int .i64 f.B]

theorem Rws.of_owned {w : World} {base EO EI : Nat} {v : Value} {g : List (List Int)} (vals : List Value) (hl : vals.length = g.length) (ho : w.ownsRow base EO 1 v g.length vals) (hn : g.length ≤ 1000000000)
    (hr : ∀ j, j < g.length → Nums w EI .i64 (vals.getD j undef) (row g j)) : Rws w EO EI v g := ⟨vals, hl, Sl.of_owns ho hn, hr⟩

theorem getD_append_left {α : Type} (l m : List α) (j : Nat) (d : α) (h : j < l.length) : (l ++ m).getD j d = l.getD j d := by simp [List.getElem?_append_left h]
theorem getD_append_last {α : Type} (l : List α) (x d : α) : (l ++ [x]).getD l.length d = x := by simp

theorem cell_new3 (w : World) (a b c : Value) (T : TypeId) : (w.alloc (.cells #[a, b, c] T)).cell? ⟨w.heap.size, 0, none⟩ = some a ∧ (w.alloc (.cells #[a, b, c] T)).cell? ⟨w.heap.size, 1, none⟩ = some b ∧ (w.alloc (.cells #[a, b, c] T)).cell? ⟨w.heap.size, 2, none⟩ = some c := by
  have := heap_alloc_new w (.cells #[a, b, c] T)
  refine ⟨?_, ?_, ?_⟩ <;> (unfold World.cell?; rw [this]; rfl)

/-- The four blocks with which the fold begins. -/
theorem fold_start (w : World) (u V A B : Value) :
    ∃ W, W = (((w.alloc (.cells #[u] 29)).alloc (.cells #[V, A, B] 89)).alloc (.cells #[.slice none 0 0] 29)).alloc (.cells #[.slice none 0 0] 29) ∧
      Below w.heap.size w W ∧ w.heap.size + 4 ≤ W.heap.size ∧ W.cell? ⟨w.heap.size, 0, none⟩ = some u ∧ W.cell? ⟨w.heap.size + 1, 0, none⟩ = some V ∧ W.cell? ⟨w.heap.size + 1, 1, none⟩ = some A ∧ W.cell? ⟨w.heap.size + 1, 2, none⟩ = some B ∧
      Box W (w.heap.size + 1 + 1) 29 (.slice none 0 0) ∧ Box W (w.heap.size + 1 + 1 + 1) 29 (.slice none 0 0) := by
  refine ⟨_, rfl, ?_⟩
  have b1 := Box.new w u 29
  have e1 := size_alloc w (.cells #[u] 29)
  have l1 := below_alloc w (.cells #[u] 29)
  generalize w.alloc (.cells #[u] 29) = W1 at *
  have b2 := cell_new3 W1 V A B 89
  have e2 := size_alloc W1 (.cells #[V, A, B] 89)
  have l2 := below_alloc W1 (.cells #[V, A, B] 89)
  generalize W1.alloc (.cells #[V, A, B] 89) = W2 at *
  have b3 := Box.new W2 (.slice none 0 0) 29
  have e3 := size_alloc W2 (.cells #[.slice none 0 0] 29)
  have l3 := below_alloc W2 (.cells #[.slice none 0 0] 29)
  generalize W2.alloc (.cells #[.slice none 0 0] 29) = W3 at *
  have b4 := Box.new W3 (.slice none 0 0) 29
  have e4 := size_alloc W3 (.cells #[.slice none 0 0] 29)
  have l4 := below_alloc W3 (.cells #[.slice none 0 0] 29)
  generalize W3.alloc (.cells #[.slice none 0 0] 29) = W4 at *
  have l24 : Below W2.heap.size W2 W4 := l3.trans (l4.mono (by omega))
  have l14 : Below W1.heap.size W1 W4 := l2.trans (l24.mono (by omega))
  rw [e1] at b2 e2
  rw [e2] at b3 e3
  rw [e3] at b4 e4
  refine ⟨l1.trans (l14.mono (by omega)), by omega, l14.at' b1.cell, l24.at' b2.1, l24.at' b2.2.1, l24.at' b2.2.2, b3.keep l4, b4⟩

/-- What a round of the fold leaves: a row is put behind the others. -/
theorem fold_step {w wr wc w7 : World} {k b7 c8 : Nat} {ov x rv : Value} {vals : List Value} {g : List (List Int)} {f : Fd} {u V A B : Value}
    (hbel : Below w.heap.size w wr) (hsz : w.heap.size + 4 ≤ wr.heap.size) (hbc : Below wr.heap.size wr wc)
    (c0 : wr.cell? ⟨w.heap.size, 0, none⟩ = some u) (c1 : wr.cell? ⟨w.heap.size + 1, 0, none⟩ = some V) (c2 : wr.cell? ⟨w.heap.size + 1, 1, none⟩ = some A) (c3 : wr.cell? ⟨w.heap.size + 1, 2, none⟩ = some B)
    (hb2 : Box wr (w.heap.size + 1 + 1) 29 x) (hb3 : Box wr (w.heap.size + 1 + 1 + 1) 29 ov) (hown : wr.ownsRow (w.heap.size + 4) 32 1 ov k vals) (hvl : vals.length = k)
    (hrows : ∀ j, j < k → Nums wr 2 .i64 (vals.getD j undef) (foldRow g f j)) (hnew : Nums wc 2 .i64 rv (foldRow g f k))
    (hown7 : w7.ownsRow (w.heap.size + 4) 32 1 (.slice (some ⟨b7, 0, none⟩) (k + 1) c8) (k + 1) (vals ++ [rv])) (hg7 : wc.grownBy w7 ov.ownBlock) :
    ∃ W, W = w7.setCell ⟨w.heap.size + 1 + 1 + 1, 0, none⟩ (.slice (some ⟨b7, 0, none⟩) (k + 1) c8) ∧
      Below w.heap.size w W ∧ w.heap.size + 4 ≤ W.heap.size ∧ W.cell? ⟨w.heap.size, 0, none⟩ = some u ∧ (W.cell? ⟨w.heap.size + 1, 0, none⟩ = some V ∧ W.cell? ⟨w.heap.size + 1, 1, none⟩ = some A ∧ W.cell? ⟨w.heap.size + 1, 2, none⟩ = some B) ∧
      Box W (w.heap.size + 1 + 1) 29 x ∧ Box W (w.heap.size + 1 + 1 + 1) 29 (.slice (some ⟨b7, 0, none⟩) (k + 1) c8) ∧ W.ownsRow (w.heap.size + 4) 32 1 (.slice (some ⟨b7, 0, none⟩) (k + 1) c8) (k + 1) (vals ++ [rv]) ∧
      ∀ j, j < k + 1 → Nums W 2 .i64 ((vals ++ [rv]).getD j undef) (foldRow g f j) := by
  have hownc := ownsRow_below hown hbc
  have hszc := hbc.size
  have hsz7 := hg7.size
  have hb7 : Below (w.heap.size + 4) wc w7 := below_grown (Below.refl _ _) hownc hg7 (Nat.le_refl _) (by omega)
  have hb37 : Box w7 (w.heap.size + 1 + 1 + 1) 29 ov := (hb3.keep hbc).below hb7 (by omega)
  have hb9 : Below (w.heap.size + 3) w7 (w7.setCell ⟨w.heap.size + 1 + 1 + 1, 0, none⟩ (.slice (some ⟨b7, 0, none⟩) (k + 1) c8)) := (Below.refl _ _).setCell (by show w.heap.size + 3 ≤ w.heap.size + 1 + 1 + 1; omega) _
  have hall : Below (w.heap.size + 3) wr (w7.setCell ⟨w.heap.size + 1 + 1 + 1, 0, none⟩ (.slice (some ⟨b7, 0, none⟩) (k + 1) c8)) := ((hbc.mono (by omega)).trans (hb7.mono (by omega))).trans hb9
  refine ⟨_, rfl, hbel.trans (hall.mono (by omega)), by have := hall.size; omega, hall.at (by omega) c0, ⟨hall.at (by omega) c1, hall.at (by omega) c2, hall.at (by omega) c3⟩, hb2.below hall (by omega), hb37.set _, ownsRow_setBox hown7 hb37 (by decide) _, fun j hj => ?_⟩
  by_cases e : j = k
  · subst e
    have : (vals ++ [rv]).getD j undef = rv := by rw [← hvl]; exact getD_append_last _ _ _
    rw [this]
    exact (hnew.other hownc hg7 (by decide)).setBox hb37 (by decide) _
  · rw [getD_append_left _ _ _ _ (by omega)]
    exact (((hrows j (by omega)).below hbc).other hownc hg7 (by decide)).setBox hb37 (by decide) _

set_option maxRecDepth 100000 in
set_option maxHeartbeats 4000000 in
theorem l20Fold_any (v : Value) (g : List (List Int)) (f : Fd) (hl : g.length ≤ 1000) (hrl : ∀ j, j < g.length → (row g j).length ≤ 1000) (w : World) (hg : Gr w v g) :
    Calls Tryd.prog 68 #[v, .agg #[.int .i64 f.V, .int .i64 f.A, .int .i64 f.B]] w fun e w' => ∃ u, e = .returned (.agg #[u]) ∧ Rws w' 32 2 u (foldG g f) ∧ (∃ p c, u = .slice p g.length c) ∧ Below w.heap.size w w' := by
  obtain ⟨u, rfl, hr⟩ := hg
  obtain ⟨p, c, rfl, _, _, hn⟩ := hr.shape
  obtain ⟨V, A, B⟩ := f
  dsimp only
  have H1000 := Lib.hid hrl
  clear hrl
  have START := Lib.hid (fold_start w (.slice p g.length c) (.int .i64 V) (.int .i64 A) (.int .i64 B))
  go_enter Tryd.func68, Tryd.ntmps68
  go_wp2
  go_loopw [6] (fun i wr => ∃ (k : Nat) (ov : Value) (vals : List Value), k ≤ g.length ∧ i = .int .i64 k ∧ Below w.heap.size w wr ∧ w.heap.size + 4 ≤ wr.heap.size ∧
      wr.cell? ⟨w.heap.size, 0, none⟩ = some (.slice p g.length c) ∧ (wr.cell? ⟨w.heap.size + 1, 0, none⟩ = some (.int .i64 V) ∧ wr.cell? ⟨w.heap.size + 1, 1, none⟩ = some (.int .i64 A) ∧ wr.cell? ⟨w.heap.size + 1, 2, none⟩ = some (.int .i64 B)) ∧
      Box wr (w.heap.size + 1 + 1) 29 (.slice none 0 0) ∧ Box wr (w.heap.size + 1 + 1 + 1) 29 ov ∧ wr.ownsRow (w.heap.size + 4) 32 1 ov k vals ∧ vals.length = k ∧
      ∀ j, j < k → Nums wr 2 .i64 (vals.getD j undef) (foldRow g ⟨V, A, B⟩ j))
    (fun i _ => g.length - (intOf i).toNat)
  case atStart =>
    obtain ⟨W, rfl, hbel, hsz, hc0, hc1, hc2, hc3, hb2, hb3⟩ := START.out
    exact ⟨0, _, [], Nat.zero_le _, rfl, hbel, hsz, hc0, ⟨hc1, hc2, hc3⟩, hb2, hb3, World.ownsRow_nil _ _ _ _, rfl, fun j hj => by omega⟩
  case round =>
    obtain ⟨k, ov, vals, hk, rfl, hbel, hsz, hc0, ⟨hc1, hc2, hc3⟩, hb2, hb3, hown, hvl, hrows⟩ := hrel
    have Hvl := Lib.hid hvl
    have Hrows := Lib.hid hrows
    have Hb3 := Lib.hid hb3
    have Hb2 := Lib.hid hb2
    have Hown := Lib.hid hown
    clear hvl hrows hb3 hb2 hown
    by_cases hlt : k < g.length
    · obtain ⟨b, o, rp, rc, rfl, hcell, hnums⟩ := (hr.below hbel).get hlt
      change wr.cell? _ = some (.slice rp (row g k).length rc) at hcell
      change Nums wr _ _ (.slice rp (row g k).length rc) (row g k) at hnums
      have e0 : (0 : Int) ≤ (k : Int) := by omega
      have e1 : (k : Int) < (g.length : Int) := by omega
      go_wp2
      go_region_held3 (fun w' => w'.cell? ⟨w.heap.size, 0, none⟩ = some (.slice (some ⟨b, o, none⟩) g.length c) ∧ w'.cell? ⟨w.heap.size + 1, 0, none⟩ = some (.int .i64 V) ∧ w'.cell? ⟨b, o + k, none⟩ = some (.slice rp (row g k).length rc))
        (first | go_keep | exact ⟨hb5.at' hc0, hb5.at' hc1, hb5.at' hcell⟩)
        (first | (go_at_call 69; refine (l19Less_any _ _ V _ (hnums.below (below_dN (Below.refl _ _) 1))).mono ?_; rintro e w5 ⟨rv, rfl, hown5, hb5⟩))
      have hszr : wr.heap.size = wr.heap.size := rfl
      have hb5' : Below wr.heap.size wr w5 := ⟨hb5.os, hb5.tape, hb5.output, hb5.size, hb5.block⟩
      have hnr : Nums w5 2 .i64 rv (lessL (row g k) V) := Nums.of_owns hown5 rfl (by have := lessL_length (row g k) V; have := H1000.out k hlt; omega)
      clear hb5 hown5 hszr hnums
      have d1 := hb5'.at' hc1
      have d2 := hb5'.at' hc2
      have d3 := hb5'.at' hc3
      go_upto_if 27 with (fail)
      go_cut [7] (fun s7 wx => Nums wx 2 .i64 s7 (fr1 g ⟨V, A, B⟩ k) ∧ Below wr.heap.size wr wx)
      case first =>
        by_cases hV : (k : Int) = V
        · have hV' : ((k : Int) == V) = true := by simpa using hV
          have H := Lib.hid (fr1_yes (g := g) (f := ⟨V, A, B⟩) hV)
          clear hV
          go_wp2
          go_meet
          refine ⟨?_, hb5'.alloc hb5'.size _⟩
          rw [H.out]
          exact Nums.of_owns (ownsRow_empty _ _ 1) rfl (by simp)
        · have hV' : ((k : Int) == V) = false := by simpa using hV
          have H := Lib.hid (fr1_no (g := g) (f := ⟨V, A, B⟩) hV)
          clear hV
          go_wp2
          go_meet
          exact ⟨by rw [H.out]; exact hnr, hb5'⟩
      case rest =>
        rename_i hKk
        clear hnr d1 d2 d3 hb5'
        obtain ⟨hn1, hbc⟩ := hcut
        have d1 := hbc.at' hc1
        have d2 := hbc.at' hc2
        have d3 := hbc.at' hc3
        have hn1' := Lib.hid hn1
        clear hn1
        refine hKk _ _ ?_
        refine wp_seq_k (fun K1 hK1 => ?_)
        go_cut [7] (fun s7 wx => Nums wx 2 .i64 s7 (fr2 g ⟨V, A, B⟩ k) ∧ Below wr.heap.size wr wx)
        case first =>
          by_cases hA : (k : Int) = A ∧ 0 ≤ B
          · have hA' : ((k : Int) == A) = true := by simpa using hA.1
            have hB := hA.2
            have H := Lib.hid (fr2_yes (g := g) (f := ⟨V, A, B⟩) hA.1 hA.2)
            have hlf : (fr1 g ⟨V, A, B⟩ k).length ≤ 100000000 := by have := fr1_length g ⟨V, A, B⟩ k; have := H1000.out k hlt; omega
            clear hA
            go_wp2_with (go_at_call 115; refine (l1Into_any _ _ B hlf _ hn1'.out).mono ?_; rintro e w6 ⟨rv2, rfl, hn2, hb6⟩)
            go_meet
            exact ⟨by rw [H.out]; exact hn2, hbc.trans (hb6.mono hbc.size)⟩
          · have H := Lib.hid (fr2_no (g := g) (f := ⟨V, A, B⟩) hA)
            by_cases hA1 : (k : Int) = A
            · have hA' : ((k : Int) == A) = true := by simpa using hA1
              have hB : B < 0 := by omega
              clear hA hA1
              go_wp2
              go_meet
              exact ⟨by rw [H.out]; exact hn1'.out, hbc⟩
            · have hA' : ((k : Int) == A) = false := by simpa using hA1
              clear hA hA1
              go_wp2
              go_meet
              exact ⟨by rw [H.out]; exact hn1'.out, hbc⟩
        case rest =>
          clear hn1' d1 d2 d3 hbc
          obtain ⟨hn1, hbc⟩ := hcut
          have d1 := hbc.at' hc1
          have d2 := hbc.at' hc2
          have d3 := hbc.at' hc3
          have hn1' := Lib.hid hn1
          clear hn1
          go_upto_if 45 with (fail)
          go_cut [7] (fun s7 wx => Nums wx 2 .i64 s7 (foldRow g ⟨V, A, B⟩ k) ∧ Below wr.heap.size wr wx)
          case first =>
            by_cases hB : (k : Int) = B
            · have hB' : ((k : Int) == B) = true := by simpa using hB
              have H := Lib.hid (foldRow_yes (g := g) (f := ⟨V, A, B⟩) hB)
              have hlf : (fr2 g ⟨V, A, B⟩ k).length ≤ 100000000 := by have := fr2_length g ⟨V, A, B⟩ k; have := H1000.out k hlt; omega
              clear hB
              go_wp2_with (go_at_call 115; refine (l1Into_any _ _ A hlf _ hn1'.out).mono ?_; rintro e w6 ⟨rv2, rfl, hn2, hb6⟩)
              go_meet
              exact ⟨by rw [H.out]; exact hn2, hbc.trans (hb6.mono hbc.size)⟩
            · have hB' : ((k : Int) == B) = false := by simpa using hB
              have H := Lib.hid (foldRow_no (g := g) (f := ⟨V, A, B⟩) hB)
              clear hB
              go_wp2
              go_meet
              exact ⟨by rw [H.out]; exact hn1'.out, hbc⟩
          case rest =>
            clear hn1' d1 d2 d3 hbc
            obtain ⟨hn1, hbc⟩ := hcut
            obtain ⟨p7, c7, rfl, _⟩ := id hn1
            have Hb3c := Lib.hid (Hb3.out.keep hbc)
            obtain ⟨hob, hof, _⟩ := Hb3c.out
            have hownc := ownsRow_below Hown.out hbc
            have hszc := hbc.size
            have Hn1 := Lib.hid hn1
            clear hn1
            go_wp2_with (at_builtin; refine wpList_app1s ty_rows rfl rfl rfl hownc rfl rfl (by omega) (by omega) ?_; intro b7 c8 w7 hown7 hg7 _; have hb7 := below_grown (Below.refl (w.heap.size + 4) wc) hownc hg7 (Nat.le_refl _) (by omega); have hob7 := hb7.at (by omega) hob; have hof7 := (hb7.frozen (p := ⟨w.heap.size + 1 + 1 + 1, 0, none⟩) (by show w.heap.size + 1 + 1 + 1 < _; omega)).trans hof)
            go_roundw
            case rel =>
              obtain ⟨W, rfl, r1, r2, r3, r4, r5, r6, r7, r8⟩ := fold_step hbel hsz hbc hc0 hc1 hc2 hc3 Hb2.out Hb3.out Hown.out Hvl.out Hrows.out Hn1.out hown7 hg7
              exact ⟨k + 1, _, _, by omega, by go_num, r1, r2, r3, r4, r5, r6, r7, by simp [Hvl.out], r8⟩
            case measure => simp [intOf]; omega
    · obtain rfl : k = g.length := by omega
      obtain ⟨k2c, k2f, _⟩ := Hb2.out
      obtain ⟨k3c, k3f, _⟩ := Hb3.out
      have hsh : ∃ p c, ov = .slice p g.length c := by
        rcases Hown.out.2 with ⟨h1, h2⟩ | ⟨g1, cap, cur, h1, _⟩
        · exact ⟨none, 0, by rw [h1, h2]⟩
        · exact ⟨_, _, h1⟩
      obtain ⟨p9, c9, rfl⟩ := hsh
      go_wp2
      refine bodyPost_ret (v := .agg #[.slice p9 g.length c9]) (by simp [results, Tryd.results68, go_sem, k2c]) rfl ⟨_, rfl, ?_, ⟨_, _, rfl⟩, ?_⟩
      · have ho := ownsRow_setBox Hown.out Hb2.out (by decide) (.slice p9 g.length c9)
        have hlen := foldG_length g ⟨V, A, B⟩
        refine Rws.of_owned vals (by rw [hlen]; exact Hvl.out) (by rw [hlen]; exact ho) (by omega) fun j hj => ?_
        rw [hlen] at hj
        rw [row_foldG g _ hj]
        exact (Hrows.out j hj).setBox Hb2.out (by decide) _
      · exact hbel.setCell (by show w.heap.size ≤ w.heap.size + 1 + 1; omega) _

end Go.Proofs.YtfokiijcpkhllaaDoor

/- Walks: the program's GraphOk. -/
namespace Go.Proofs.YtfokiijcpkhllaaDoor
open Go.RowKit

set_option maxRecDepth 100000 in
set_option maxHeartbeats 1000000 in
theorem increasing_any (v : Value) (xs : List Int) (n : Int) (h0 : 0 ≤ n) (h1 : n ≤ 1000000000) (w : World) (hx : Nums w 2 .i64 v xs) :
    Calls Tryd.prog 105 #[v, .int .i64 n] w fun e w' => e = .returned (.bool (dec (SetIn n xs))) ∧ w = w' := by
  obtain ⟨p, c, rfl, _, _, hn, hat⟩ := hx
  go_enter Tryd.func105, Tryd.ntmps105
  go_wp2
  go_loop [5, 6, 9] (fun _ _ i => ∃ k : Nat, k ≤ xs.length ∧ i = .int .i64 k ∧ SetIn n (xs.take k)) (fun _ _ i => xs.length - (intOf i).toNat)
  case atStart => exact ⟨0, Nat.zero_le _, rfl, by simpa using setIn_nil n⟩
  case round =>
    obtain ⟨k, hk, rfl, hset⟩ := hrel
    by_cases hlt : k < xs.length
    · obtain ⟨b, o, rfl, hcs⟩ := hat.cells (k := k) (by simpa using hlt)
      have hcell : w.cell? ⟨b, o + k, none⟩ = some (.int .i64 xs[k]) := hcs k _ (by simp [hlt])
      have hcell' : 0 < k → ∃ y, y = xs[k - 1]'(by omega) ∧ w.cell? ⟨b, o + (k - 1), none⟩ = some (.int .i64 y) := fun hk0 => ⟨_, rfl, hcs (k - 1) _ (by rw [List.getElem?_map, List.getElem?_eq_getElem (by omega)]; rfl)⟩
      have hstep := setIn_step (n := n) hlt
      clear hcs hat
      have Hset := Lib.hid hset
      have Hstep := Lib.hid hstep
      clear hset hstep
      by_cases hin : 0 ≤ xs[k] ∧ xs[k] ≤ n - 1
      · have hin' := dec_true hin
        by_cases hk0 : 0 < k
        · obtain ⟨y, hy, hcy⟩ := hcell' hk0
          clear hcell'
          have Hy := Lib.hid hy
          clear hy
          have e3 : 0 ≤ (k : Int) - 1 := by omega
          have e4 : ((k : Int) - 1).toNat = k - 1 := by omega
          by_cases hle : xs[k] ≤ y
          · go_wp2_with (go_at_call 70; refine (inRange_any _ _ _ _).mono ?_; rintro e w2 ⟨rfl, rfl⟩)
            go_ret
            exact ⟨ret_bool (false_dec fun h => by have h3 := (Hstep.out.1 (setIn_take h _)).2.2 hk0; have := Hy.out; omega), rfl⟩
          · go_wp2_with (go_at_call 70; refine (inRange_any _ _ _ _).mono ?_; rintro e w2 ⟨rfl, rfl⟩)
            go_round
            case rel => exact ⟨k + 1, by omega, by go_num, Hstep.out.2 ⟨Hset.out, by omega, fun _ => by have := Hy.out; omega⟩⟩
            case measure => simp [intOf]; omega
        · go_wp2_with (go_at_call 70; refine (inRange_any _ _ _ _).mono ?_; rintro e w2 ⟨rfl, rfl⟩)
          go_round
          case rel => exact ⟨k + 1, by omega, by go_num, Hstep.out.2 ⟨Hset.out, by omega, fun h => absurd h (by omega)⟩⟩
          case measure => simp [intOf]; omega
      · have hin' := dec_false hin
        have Hin := Lib.hid hin
        clear hin
        go_wp2_with (go_at_call 70; refine (inRange_any _ _ _ _).mono ?_; rintro e w2 ⟨rfl, rfl⟩)
        go_ret
        exact ⟨ret_bool (false_dec fun h => by have h3 := (Hstep.out.1 (setIn_take h _)).2.1; have := Hin.out; omega), rfl⟩
    · obtain rfl : k = xs.length := by omega
      go_wp2
      go_ret
      rw [List.take_length] at hset
      exact ⟨ret_bool (true_dec hset), rfl⟩

set_option maxRecDepth 100000 in
set_option maxHeartbeats 2000000 in
theorem implGraphOk_any (v : Value) (g : List (List Int)) (w : World) (hg : Gr w v g) :
    Calls Tryd.prog 38 #[v] w fun e w' => e = .returned (.bool (dec (GOk g))) ∧ Below w.heap.size w w' := by
  obtain ⟨u, rfl, hr⟩ := hg
  obtain ⟨p, c, rfl, _, _, hn⟩ := hr.shape
  obtain ⟨W1, hW1⟩ : ∃ W1, W1 = w.alloc (.cells #[.slice p g.length c] 29) := ⟨_, rfl⟩
  have hs1 : W1.heap.size = w.heap.size + 1 := by rw [hW1]; exact size_alloc _ _
  have hb1 : Below w.heap.size w W1 := by rw [hW1]; exact below_alloc _ _
  have hbox : W1.cell? ⟨w.heap.size, 0, none⟩ = some (.slice p g.length c) := by rw [hW1]; exact cell_new _ _ _
  have hr1 := hr.below hb1
  have HW1 := Lib.hid hW1
  have hs1' : w.heap.size < W1.heap.size := by omega
  clear hW1 hs1 hr
  by_cases hlen : 1 ≤ g.length ∧ g.length ≤ 16
  case neg =>
    have Hlen := Lib.hid hlen
    by_cases hl0 : g.length < 1
    all_goals
      have hl0' : (g.length : Int) < 1 ∨ (16 : Int) < g.length := by omega
      clear hlen
      go_enter Tryd.func38, Tryd.ntmps38
      go_wp2
      go_ret
      exact ⟨ret_bool (false_dec fun h => Hlen.out ⟨h.pos, h.le⟩), HW1.out ▸ hb1⟩
  obtain ⟨hl1, hl2⟩ := hlen
  go_enter Tryd.func38, Tryd.ntmps38
  go_wp2
  go_loopw [4, 5, 22] (fun _ _ i wr => ∃ k : Nat, k ≤ g.length ∧ i = .int .i64 k ∧ (∀ j, j < k → RowOk g j) ∧ W1 = wr) (fun _ _ i _ => g.length - (intOf i).toNat)
  case atStart => exact ⟨0, Nat.zero_le _, rfl, fun j hj => by omega, HW1.out⟩
  case round =>
    obtain ⟨k, hk, rfl, hrows, rfl⟩ := hrel
    have Hrows := Lib.hid hrows
    clear hrows
    by_cases hlt : k < g.length
    · obtain ⟨b, o, rp, rc, rfl, hcell, hnums⟩ := hr1.get hlt
      change W1.cell? _ = some (.slice rp (row g k).length rc) at hcell
      change Nums W1 _ _ (.slice rp (row g k).length rc) (row g k) at hnums
      by_cases hs : SetIn (g.length : Int) (row g k)
      · have hs' := dec_true hs
        by_cases hh : (k : Int) ∈ row g k
        · have hh' := dec_true hh
          have Hh := Lib.hid hh
          have Hs := Lib.hid hs
          clear hh hs
          go_wp2_with (first
            | (go_at_call 105; refine (increasing_any _ _ _ (by omega) (by omega) _ hnums).mono ?_; rintro e w3 ⟨rfl, rfl⟩)
            | (go_at_call 106; refine (contains_any _ _ _ _ hnums).mono ?_; rintro e w4 ⟨rfl, rfl⟩))
          go_ret
          exact ⟨ret_bool (false_dec fun h => (h.sets k hlt).2 Hh.out), hb1⟩
        · have hh' := dec_false hh
          have Hok := Lib.hid (show RowOk g k from ⟨hs, hh⟩)
          clear hh hs
          go_wp2_with (first
            | (go_at_call 105; refine (increasing_any _ _ _ (by omega) (by omega) _ hnums).mono ?_; rintro e w3 ⟨rfl, rfl⟩)
            | (go_at_call 106; refine (contains_any _ _ _ _ hnums).mono ?_; rintro e w4 ⟨rfl, rfl⟩))
          go_roundw
          case rel =>
            refine ⟨k + 1, by omega, by go_num, fun j hj => ?_, by trivial⟩
            by_cases e : j = k
            · subst e; exact Hok.out
            · exact Hrows.out j (by omega)
          case measure => simp [intOf]; omega
      · have hs' := dec_false hs
        have Hs := Lib.hid hs
        clear hs
        go_wp2_with (go_at_call 105; refine (increasing_any _ _ _ (by omega) (by omega) _ hnums).mono ?_; rintro e w3 ⟨rfl, rfl⟩)
        go_ret
        exact ⟨ret_bool (false_dec fun h => Hs.out (h.sets k hlt).1), hb1⟩
    · obtain rfl : k = g.length := by omega
      go_wp2
      go_loopw [6, 7, 9, 40, 45, 46, 47] (fun _ _ _ i _ _ _ wr => ∃ k : Nat, k ≤ g.length ∧ i = .int .i64 k ∧ (∀ j, j < k → BackTo g j (row g j).length) ∧ W1 = wr) (fun _ _ _ i _ _ _ _ => g.length - (intOf i).toNat)
      case atStart => exact ⟨0, Nat.zero_le _, rfl, fun j hj => by omega, rfl⟩
      case round =>
        obtain ⟨k, hk, rfl, hback, rfl⟩ := hrel
        have Hback := Lib.hid hback
        clear hback
        by_cases hlt : k < g.length
        · obtain ⟨b, o, rp, rc, rfl, hcell, hnums⟩ := hr1.get hlt
          change W1.cell? _ = some (.slice rp (row g k).length rc) at hcell
          change Nums W1 _ _ (.slice rp (row g k).length rc) (row g k) at hnums
          obtain ⟨_, _, hv, _, _, hnr, hat⟩ := hnums
          simp only [Value.slice.injEq, true_and] at hv
          obtain ⟨rfl, rfl⟩ := hv
          go_wp2
          go_loopw [9, 47] (fun _ i wr => ∃ j : Nat, j ≤ (row g k).length ∧ i = .int .i64 j ∧ BackTo g k j ∧ W1 = wr) (fun _ i _ => (row g k).length - (intOf i).toNat)
          case atStart => exact ⟨0, Nat.zero_le _, rfl, fun u hu => by simp at hu, rfl⟩
          case round =>
            obtain ⟨i, hi, rfl, hbk, rfl⟩ := hrel
            have Hbk := Lib.hid hbk
            clear hbk
            by_cases hlti : i < (row g k).length
            · obtain ⟨m, hm, hmn⟩ := row_bound (Hrows.out k hlt) hlti
              obtain ⟨b2, o2, rfl, hcell2⟩ := hat.num hlti
              rw [hm] at hcell2
              obtain ⟨b', o', rp', rc', he, hcell3, hnums3⟩ := hr1.get hmn
              simp only [Option.some.injEq, Addr.mk.injEq, and_true] at he
              obtain ⟨rfl, rfl⟩ := he
              change W1.cell? _ = some (.slice rp' (row g m).length rc') at hcell3
              change Nums W1 _ _ (.slice rp' (row g m).length rc') (row g m) at hnums3
              clear hat
              have Hm := Lib.hid hm
              clear hm
              by_cases hh : (k : Int) ∈ row g m
              · have hh' := dec_true hh
                have Hh := Lib.hid hh
                clear hh
                go_wp2_with (go_at_call 106; refine (contains_any _ _ _ _ hnums3).mono ?_; rintro e w4 ⟨rfl, rfl⟩)
                go_roundw
                case rel =>
                  refine ⟨i + 1, by omega, by go_num, backTo_step hlti Hbk.out ?_, by trivial⟩
                  rw [Hm.out, Int.toNat_natCast]; exact Hh.out
                case measure => simp [intOf]; omega
              · have hh' := dec_false hh
                have Hh := Lib.hid hh
                clear hh
                go_wp2_with (go_at_call 106; refine (contains_any _ _ _ _ hnums3).mono ?_; rintro e w4 ⟨rfl, rfl⟩)
                go_ret
                refine ⟨ret_bool (false_dec fun h => Hh.out ?_), hb1⟩
                have := h.both k hlt _ (List.getElem_mem hlti)
                rwa [Hm.out, Int.toNat_natCast] at this
            · obtain rfl : i = (row g k).length := by omega
              go_wp2
              go_roundw
              case rel =>
                refine ⟨k + 1, by omega, by go_num, fun j hj => ?_, by trivial⟩
                by_cases e : j = k
                · subst e; exact Hbk.out
                · exact Hback.out j (by omega)
              case measure => simp [intOf]; omega
        · obtain rfl : k = g.length := by omega
          go_wp2
          go_ret
          exact ⟨ret_bool (true_dec (gOk_of ⟨hl1, hl2⟩ Hrows.out Hback.out)), hb1⟩

end Go.Proofs.YtfokiijcpkhllaaDoor

/- Walks: sets of neighbours. -/
namespace Go.Proofs.YtfokiijcpkhllaaDoor
open Go.RowKit

/-- A set of vertices as a value. -/
def u32v (s : Nat) : Value := .int .u32 (s : Int)
/-- The sets of neighbours of a graph. -/
def netL (g : List (List Int)) : List Nat := g.map mask

theorem mask_take_lt16 {xs : List Int} (h : ∀ x ∈ xs, 0 ≤ x ∧ x < 16) (k : Nat) : mask (xs.take k) < 65536 :=
  mask_lt16 _ fun x hx => (h x (List.mem_of_mem_take hx)).2

theorem or_u32 (a b : Nat) (ha : a < 65536) (hb : b < 65536) : bits BinOp.or IntKind.u32 (a : Int) (b : Int) = ((a ||| b : Nat) : Int) := u32_or_nat a b (by omega) (by omega)

set_option maxRecDepth 100000 in
set_option maxHeartbeats 1000000 in
theorem maskOf_any (v : Value) (xs : List Int) (hr : ∀ x ∈ xs, 0 ≤ x ∧ x < 16) (w : World) (hx : Nums w 2 .i64 v xs) :
    Calls Tryd.prog 107 #[v] w fun e w' => e = .returned (.int .u32 ((mask xs : Nat) : Int)) ∧ w = w' := by
  obtain ⟨p, c, rfl, _, _, hn, hat⟩ := hx
  go_enter Tryd.func107, Tryd.ntmps107
  go_wp2
  go_loop [3, 5, 8] (fun o _ i => ∃ k : Nat, k ≤ xs.length ∧ i = .int .i64 k ∧ o = .int .u32 (mask (xs.take k))) (fun _ _ i => xs.length - (intOf i).toNat)
  case atStart => exact ⟨0, Nat.zero_le _, rfl, rfl⟩
  case round =>
    obtain ⟨k, hk, rfl, rfl⟩ := hrel
    by_cases hlt : k < xs.length
    · obtain ⟨b, o, rfl, hcell⟩ := hat.num hlt
      have hb := hr _ (List.getElem_mem hlt)
      obtain ⟨m, hm⟩ : ∃ m : Nat, xs[k] = (m : Int) := ⟨xs[k].toNat, by omega⟩
      have hor := Lib.hid (or_u32 (mask (xs.take k)) (2 ^ m) (mask_take_lt16 hr k) (pow_lt16 m (by omega)))
      have hsn : mask (xs.take (k + 1)) = mask (xs.take k) ||| 2 ^ m := by rw [take_snoc' _ k hlt, mask_snoc, hm, Int.toNat_natCast]
      have Hsn := Lib.hid hsn
      have hm16 : m < 32 := by omega
      rw [hm] at hcell
      clear hsn hm hb hat hr
      generalize mask (xs.take k) = M at *
      go_wp2_with (go_at_call 74; refine (one_any _ m rfl hm16 _).mono ?_; rintro e w2 ⟨rfl, rfl⟩)
      go_round
      case rel => exact ⟨k + 1, by omega, by go_num, val_int (by rw [Hsn.out]; exact hor.out)⟩
      case measure => simp [intOf]; omega
    · obtain rfl : k = xs.length := by omega
      rw [List.take_length]
      go_wp2
      go_ret
      exact ⟨rfl, rfl⟩

theorem netL_lt {g : List (List Int)} (h : GOk g) : ∀ s ∈ netL g, s < 65536 := by
  intro s hs
  obtain ⟨r, hr, rfl⟩ := List.mem_map.1 hs
  obtain ⟨i, hi, rfl⟩ := List.mem_iff_getElem.1 hr
  have h1 := (h.sets i hi).1
  have e : row g i = g[i] := by simp [row, hi]
  rw [e] at h1
  exact mask_lt16 _ fun x hx => by have := (h1.1 x hx).2; have := h.le; omega

set_option maxRecDepth 100000 in
set_option maxHeartbeats 1000000 in
theorem netsOf_any (v : Value) (g : List (List Int)) (w : World) (hg : Gr w v g) (hok : GOk g) :
    Calls Tryd.prog 41 #[v] w fun e w' => ∃ u, e = .returned u ∧
      w'.ownsRow w.heap.size 64 1 u g.length ((netL g).map u32v) ∧ Below w.heap.size w w' := by
  obtain ⟨u, rfl, hr⟩ := hg
  obtain ⟨p, c, rfl, _, _, hn⟩ := hr.shape
  have h16 := hok.le
  have hbb := below_alloc w (.cells #[.slice p g.length c] 29)
  have hbox := cell_new w (.slice p g.length c) 29
  go_enter Tryd.func41, Tryd.ntmps41
  go_wp2
  go_loopw [3, 5, 10] (fun o _ i wr => ∃ k : Nat, k ≤ g.length ∧ i = .int .i64 k ∧ wr.ownsRow w.heap.size 64 1 o k ((netL (g.take k)).map u32v) ∧ Below w.heap.size w wr) (fun _ _ i _ => g.length - (intOf i).toNat)
  case atStart => exact ⟨0, Nat.zero_le _, rfl, ownsRow_empty' _ _ _ _ _ (by omega), hbb.alloc (by rw [size_alloc]; omega) _⟩
  case round =>
    clear hbox hbb
    obtain ⟨k, hk, rfl, hown, hbel⟩ := hrel
    have hszr := hbel.size
    by_cases hlt : k < g.length
    · obtain ⟨b, o, rp, rc, rfl, hcell, hnums⟩ := (hr.below hbel).get hlt
      change wr.cell? _ = some (.slice rp (row g k).length rc) at hcell
      change Nums wr _ _ (.slice rp (row g k).length rc) (row g k) at hnums
      have hin : ∀ x ∈ row g k, 0 ≤ x ∧ x < 16 := fun x hx => by have := (hok.sets k hlt).1.1 x hx; omega
      have ht := Lib.hid (take_snoc' g k hlt)
      have he : g[k] = row g k := by simp [row, hlt]
      have He := Lib.hid he
      clear he
      go_wp2_with (first
        | (go_at_call 107; refine (maskOf_any _ _ hin _ hnums).mono ?_; rintro e w2 ⟨rfl, rfl⟩)
        | (at_builtin; refine wpList_app1 ty_nets rfl rfl rfl hown rfl rfl (by omega) hszr ?_; intro v' w1 hown' hg _))
      go_roundw
      case rel =>
        refine ⟨k + 1, by omega, by go_num, ?_, below_grown hbel hown hg (Nat.le_refl _) hszr⟩
        rw [ht.out, netL, List.map_append, List.map_append, List.map_singleton, List.map_singleton, He.out]
        exact hown'
      case measure => simp [intOf]; omega
    · obtain rfl : k = g.length := by omega
      go_wp2
      go_ret
      rw [List.take_length] at hown
      exact ⟨_, rfl, hown, hbel⟩

set_option maxRecDepth 100000 in
set_option maxHeartbeats 400000 in
theorem all_any (p : Option Addr) (n c : Nat) (hn : n < 32) (w : World) :
    Calls Tryd.prog 46 #[.slice p n c] w fun e w' => e = .returned (.int .u32 ((2 ^ n - 1 : Nat) : Int)) ∧ w = w' := by
  go_enter Tryd.func46, Tryd.ntmps46
  go_wp2_with (go_at_call 112; refine (firstOf_any _ n rfl hn _).mono ?_; rintro e w2 ⟨rfl, rfl⟩)
  go_ret
  exact ⟨rfl, rfl⟩

/-- Two vertices are made neighbours. -/
def joinL (a : List Nat) (u v : Nat) : List Nat := let b := a.set u (a.getD u 0 ||| 2 ^ v); b.set v (b.getD v 0 ||| 2 ^ u)

set_option maxRecDepth 100000 in
set_option maxHeartbeats 1000000 in
theorem join_any (x : Value) (y z : Int) (a : List Nat) (u v base : Nat) (hy : y = u) (hz : z = v) (hu : u < a.length) (hv : v < a.length) (huv : u ≠ v) (h16 : a.length ≤ 16) (ha : ∀ s ∈ a, s < 65536) (w : World)
    (ho : w.ownsRow base 64 1 x a.length (a.map u32v)) :
    Calls Tryd.prog 122 #[x, .int .i64 y, .int .i64 z] w fun e w' => e = .returned (.tuple #[]) ∧
      w'.ownsRow base 64 1 x a.length ((joinL a u v).map u32v) ∧ w.grownBy w' x.ownBlock := by
  subst hy; subst hz
  rcases ho.2 with ⟨_, h0⟩ | ⟨g, cap, cur, rfl, _⟩
  · omega
  have hc1 := ho.cellAt u (by omega)
  have hf1 := ho.frozenAt u
  rw [List.getElem?_map, List.getElem?_eq_getElem hu] at hc1
  change w.cell? _ = some (.int .u32 (a[u] : Int)) at hc1
  have ha1 := ha _ (List.getElem_mem hu)
  have hor1 := or_u32 a[u] (2 ^ v) ha1 (pow_lt16 v (by omega))
  -- behind the first store
  obtain ⟨ho2, hg2⟩ := ho.stored u (.int .u32 ((a[u] ||| 2 ^ v : Nat) : Int))
  obtain ⟨b, hb⟩ : ∃ b, b = a.set u (a[u] ||| 2 ^ v) := ⟨_, rfl⟩
  have hbl : b.length = a.length := by rw [hb]; simp
  have hbm : (a.map u32v).set u (.int .u32 ((a[u] ||| 2 ^ v : Nat) : Int)) = b.map u32v := by rw [hb, List.map_set]; rfl
  rw [hbm] at ho2
  have hvb : v < b.length := by omega
  have hb16 : ∀ s ∈ b, s < 65536 := by
    intro s hs
    rw [hb] at hs
    rcases List.mem_or_eq_of_mem_set hs with h | h
    · exact ha s h
    · subst h; exact or_lt16 _ _ ha1 (pow_lt16 v (by omega))
  have hvu : v ≠ u := fun e => huv e.symm
  have hbv : b[v] = a[v] := by simp [hb, huv]
  have hc2 := ho.cellAt v (by omega)
  have hf2' := ho.frozenAt v
  have hf2 := ho2.frozenAt v
  rw [List.getElem?_map, List.getElem?_eq_getElem hv] at hc2
  change w.cell? _ = some (.int .u32 (a[v] : Int)) at hc2
  rw [← hbv] at hc2
  have hor2 := or_u32 b[v] (2 ^ u) (hb16 _ (List.getElem_mem hvb)) (pow_lt16 u (by omega))
  obtain ⟨ho3, hg3⟩ := ho2.stored v (.int .u32 ((b[v] ||| 2 ^ u : Nat) : Int))
  have hfin : (b.map u32v).set v (.int .u32 ((b[v] ||| 2 ^ u : Nat) : Int)) = (joinL a u v).map u32v := by
    have e1 : a.getD u 0 = a[u] := by simp [hu]
    have e2 : b.getD v 0 = b[v] := by simp [hvb]
    simp only [joinL, e1]
    rw [← hb, e2, List.map_set]; rfl
  rw [hfin] at ho3
  have H3 := Lib.hid ho3
  have hgr := Lib.hid (grown_trans hg2 hg3)
  have c1 := Lib.hid (fun w => one_any (v : Int) v rfl (by omega) w)
  have c2 := Lib.hid (fun w => one_any (u : Int) u rfl (by omega) w)
  clear ho3 hfin ho2 ho hbm hbl hb hb16 hbv hg2 hg3 hf2
  generalize 2 ^ v = pv at *
  generalize 2 ^ u = pu at *
  go_enter Tryd.func122, Tryd.ntmps122
  go_wp2
  go_region_with (go_at_call 74; refine (c1.out _).mono ?_; rintro e w2 ⟨rfl, rfl⟩)
  all_goals go_wp2
  all_goals go_region_with (go_at_call 74; refine (c2.out _).mono ?_; rintro e w2 ⟨rfl, rfl⟩)
  all_goals go_end0
  all_goals exact ⟨rfl, H3.out, hgr.out.os, hgr.out.tape, hgr.out.output, hgr.out.size, hgr.out.block⟩

end Go.Proofs.YtfokiijcpkhllaaDoor
