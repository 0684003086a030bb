/- Walks: the reference's fold of a vertex. -/
import Derived.Test.YtfokiijcpkhllaaDoorDsQ10
import Derived.Test.YtfokiijcpkhllaaDoorDsQ1
import Derived.Deep.RegionHeld3
import Derived.Deep.DeepCutAuto
namespace Go.Proofs.YtfokiijcpkhllaaDoor
open Go.RowKit

def fdVal (f : Fd) : Value := .agg #[.int .i64 f.V, .int .i64 f.A, .int .i64 f.B]

theorem Rws.of_owned {w : World} {base EO EI : Nat} {v : Value} {g : List (List Int)} (vals : List Value) (hl : vals.length = g.length) (ho : w.ownsRow base EO 1 v g.length vals) (hn : g.length ≤ 1000000000)
    (hr : ∀ j, j < g.length → Nums w EI .i64 (vals.getD j undef) (row g j)) : Rws w EO EI v g := ⟨vals, hl, Sl.of_owns ho hn, hr⟩

theorem getD_append_left {α : Type} (l m : List α) (j : Nat) (d : α) (h : j < l.length) : (l ++ m).getD j d = l.getD j d := by simp [List.getElem?_append_left h]
theorem getD_append_last {α : Type} (l : List α) (x d : α) : (l ++ [x]).getD l.length d = x := by simp

theorem cell_new3 (w : World) (a b c : Value) (T : TypeId) : (w.alloc (.cells #[a, b, c] T)).cell? ⟨w.heap.size, 0, none⟩ = some a ∧ (w.alloc (.cells #[a, b, c] T)).cell? ⟨w.heap.size, 1, none⟩ = some b ∧ (w.alloc (.cells #[a, b, c] T)).cell? ⟨w.heap.size, 2, none⟩ = some c := by
  have := heap_alloc_new w (.cells #[a, b, c] T)
  refine ⟨?_, ?_, ?_⟩ <;> (unfold World.cell?; rw [this]; rfl)

/-- The four blocks with which the fold begins. -/
theorem fold_start (w : World) (u V A B : Value) :
    ∃ W, W = (((w.alloc (.cells #[u] 29)).alloc (.cells #[V, A, B] 89)).alloc (.cells #[.slice none 0 0] 29)).alloc (.cells #[.slice none 0 0] 29) ∧
      Below w.heap.size w W ∧ w.heap.size + 4 ≤ W.heap.size ∧ W.cell? ⟨w.heap.size, 0, none⟩ = some u ∧ W.cell? ⟨w.heap.size + 1, 0, none⟩ = some V ∧ W.cell? ⟨w.heap.size + 1, 1, none⟩ = some A ∧ W.cell? ⟨w.heap.size + 1, 2, none⟩ = some B ∧
      Box W (w.heap.size + 1 + 1) 29 (.slice none 0 0) ∧ Box W (w.heap.size + 1 + 1 + 1) 29 (.slice none 0 0) := by
  refine ⟨_, rfl, ?_⟩
  have b1 := Box.new w u 29
  have e1 := size_alloc w (.cells #[u] 29)
  have l1 := below_alloc w (.cells #[u] 29)
  generalize w.alloc (.cells #[u] 29) = W1 at *
  have b2 := cell_new3 W1 V A B 89
  have e2 := size_alloc W1 (.cells #[V, A, B] 89)
  have l2 := below_alloc W1 (.cells #[V, A, B] 89)
  generalize W1.alloc (.cells #[V, A, B] 89) = W2 at *
  have b3 := Box.new W2 (.slice none 0 0) 29
  have e3 := size_alloc W2 (.cells #[.slice none 0 0] 29)
  have l3 := below_alloc W2 (.cells #[.slice none 0 0] 29)
  generalize W2.alloc (.cells #[.slice none 0 0] 29) = W3 at *
  have b4 := Box.new W3 (.slice none 0 0) 29
  have e4 := size_alloc W3 (.cells #[.slice none 0 0] 29)
  have l4 := below_alloc W3 (.cells #[.slice none 0 0] 29)
  generalize W3.alloc (.cells #[.slice none 0 0] 29) = W4 at *
  have l24 : Below W2.heap.size W2 W4 := l3.trans (l4.mono (by omega))
  have l14 : Below W1.heap.size W1 W4 := l2.trans (l24.mono (by omega))
  rw [e1] at b2 e2
  rw [e2] at b3 e3
  rw [e3] at b4 e4
  refine ⟨l1.trans (l14.mono (by omega)), by omega, l14.at' b1.cell, l24.at' b2.1, l24.at' b2.2.1, l24.at' b2.2.2, b3.keep l4, b4⟩

/-- What a round of the fold leaves: a row is put behind the others. -/
theorem fold_step {w wr wc w7 : World} {k b7 c8 : Nat} {ov x rv : Value} {vals : List Value} {g : List (List Int)} {f : Fd} {u V A B : Value}
    (hbel : Below w.heap.size w wr) (hsz : w.heap.size + 4 ≤ wr.heap.size) (hbc : Below wr.heap.size wr wc)
    (c0 : wr.cell? ⟨w.heap.size, 0, none⟩ = some u) (c1 : wr.cell? ⟨w.heap.size + 1, 0, none⟩ = some V) (c2 : wr.cell? ⟨w.heap.size + 1, 1, none⟩ = some A) (c3 : wr.cell? ⟨w.heap.size + 1, 2, none⟩ = some B)
    (hb2 : Box wr (w.heap.size + 1 + 1) 29 x) (hb3 : Box wr (w.heap.size + 1 + 1 + 1) 29 ov) (hown : wr.ownsRow (w.heap.size + 4) 32 1 ov k vals) (hvl : vals.length = k)
    (hrows : ∀ j, j < k → Nums wr 2 .i64 (vals.getD j undef) (foldRow g f j)) (hnew : Nums wc 2 .i64 rv (foldRow g f k))
    (hown7 : w7.ownsRow (w.heap.size + 4) 32 1 (.slice (some ⟨b7, 0, none⟩) (k + 1) c8) (k + 1) (vals ++ [rv])) (hg7 : wc.grownBy w7 ov.ownBlock) :
    ∃ W, W = w7.setCell ⟨w.heap.size + 1 + 1 + 1, 0, none⟩ (.slice (some ⟨b7, 0, none⟩) (k + 1) c8) ∧
      Below w.heap.size w W ∧ w.heap.size + 4 ≤ W.heap.size ∧ W.cell? ⟨w.heap.size, 0, none⟩ = some u ∧ (W.cell? ⟨w.heap.size + 1, 0, none⟩ = some V ∧ W.cell? ⟨w.heap.size + 1, 1, none⟩ = some A ∧ W.cell? ⟨w.heap.size + 1, 2, none⟩ = some B) ∧
      Box W (w.heap.size + 1 + 1) 29 x ∧ Box W (w.heap.size + 1 + 1 + 1) 29 (.slice (some ⟨b7, 0, none⟩) (k + 1) c8) ∧ W.ownsRow (w.heap.size + 4) 32 1 (.slice (some ⟨b7, 0, none⟩) (k + 1) c8) (k + 1) (vals ++ [rv]) ∧
      ∀ j, j < k + 1 → Nums W 2 .i64 ((vals ++ [rv]).getD j undef) (foldRow g f j) := by
  have hownc := ownsRow_below hown hbc
  have hszc := hbc.size
  have hsz7 := hg7.size
  have hb7 : Below (w.heap.size + 4) wc w7 := below_grown (Below.refl _ _) hownc hg7 (Nat.le_refl _) (by omega)
  have hb37 : Box w7 (w.heap.size + 1 + 1 + 1) 29 ov := (hb3.keep hbc).below hb7 (by omega)
  have hb9 : Below (w.heap.size + 3) w7 (w7.setCell ⟨w.heap.size + 1 + 1 + 1, 0, none⟩ (.slice (some ⟨b7, 0, none⟩) (k + 1) c8)) := (Below.refl _ _).setCell (by show w.heap.size + 3 ≤ w.heap.size + 1 + 1 + 1; omega) _
  have hall : Below (w.heap.size + 3) wr (w7.setCell ⟨w.heap.size + 1 + 1 + 1, 0, none⟩ (.slice (some ⟨b7, 0, none⟩) (k + 1) c8)) := ((hbc.mono (by omega)).trans (hb7.mono (by omega))).trans hb9
  refine ⟨_, rfl, hbel.trans (hall.mono (by omega)), by have := hall.size; omega, hall.at (by omega) c0, ⟨hall.at (by omega) c1, hall.at (by omega) c2, hall.at (by omega) c3⟩, hb2.below hall (by omega), hb37.set _, ownsRow_setBox hown7 hb37 (by decide) _, fun j hj => ?_⟩
  by_cases e : j = k
  · subst e
    have : (vals ++ [rv]).getD j undef = rv := by rw [← hvl]; exact getD_append_last _ _ _
    rw [this]
    exact (hnew.other hownc hg7 (by decide)).setBox hb37 (by decide) _
  · rw [getD_append_left _ _ _ _ (by omega)]
    exact (((hrows j (by omega)).below hbc).other hownc hg7 (by decide)).setBox hb37 (by decide) _

set_option maxRecDepth 100000 in
set_option maxHeartbeats 4000000 in
theorem l20Fold_any (v : Value) (g : List (List Int)) (f : Fd) (hl : g.length ≤ 1000) (hrl : ∀ j, j < g.length → (row g j).length ≤ 1000) (w : World) (hg : Gr w v g) :
    Calls Tryd.prog 68 #[v, .agg #[.int .i64 f.V, .int .i64 f.A, .int .i64 f.B]] w fun e w' => ∃ u, e = .returned (.agg #[u]) ∧ Rws w' 32 2 u (foldG g f) ∧ (∃ p c, u = .slice p g.length c) ∧ Below w.heap.size w w' := by
  obtain ⟨u, rfl, hr⟩ := hg
  obtain ⟨p, c, rfl, _, _, hn⟩ := hr.shape
  obtain ⟨V, A, B⟩ := f
  dsimp only
  have H1000 := Lib.hid hrl
  clear hrl
  have START := Lib.hid (fold_start w (.slice p g.length c) (.int .i64 V) (.int .i64 A) (.int .i64 B))
  go_enter Tryd.func68, Tryd.ntmps68
  go_wp2
  go_loopw [6] (fun i wr => ∃ (k : Nat) (ov : Value) (vals : List Value), k ≤ g.length ∧ i = .int .i64 k ∧ Below w.heap.size w wr ∧ w.heap.size + 4 ≤ wr.heap.size ∧
      wr.cell? ⟨w.heap.size, 0, none⟩ = some (.slice p g.length c) ∧ (wr.cell? ⟨w.heap.size + 1, 0, none⟩ = some (.int .i64 V) ∧ wr.cell? ⟨w.heap.size + 1, 1, none⟩ = some (.int .i64 A) ∧ wr.cell? ⟨w.heap.size + 1, 2, none⟩ = some (.int .i64 B)) ∧
      Box wr (w.heap.size + 1 + 1) 29 (.slice none 0 0) ∧ Box wr (w.heap.size + 1 + 1 + 1) 29 ov ∧ wr.ownsRow (w.heap.size + 4) 32 1 ov k vals ∧ vals.length = k ∧
      ∀ j, j < k → Nums wr 2 .i64 (vals.getD j undef) (foldRow g ⟨V, A, B⟩ j))
    (fun i _ => g.length - (intOf i).toNat)
  case atStart =>
    obtain ⟨W, rfl, hbel, hsz, hc0, hc1, hc2, hc3, hb2, hb3⟩ := START.out
    exact ⟨0, _, [], Nat.zero_le _, rfl, hbel, hsz, hc0, ⟨hc1, hc2, hc3⟩, hb2, hb3, World.ownsRow_nil _ _ _ _, rfl, fun j hj => by omega⟩
  case round =>
    obtain ⟨k, ov, vals, hk, rfl, hbel, hsz, hc0, ⟨hc1, hc2, hc3⟩, hb2, hb3, hown, hvl, hrows⟩ := hrel
    have Hvl := Lib.hid hvl
    have Hrows := Lib.hid hrows
    have Hb3 := Lib.hid hb3
    have Hb2 := Lib.hid hb2
    have Hown := Lib.hid hown
    clear hvl hrows hb3 hb2 hown
    by_cases hlt : k < g.length
    · obtain ⟨b, o, rp, rc, rfl, hcell, hnums⟩ := (hr.below hbel).get hlt
      change wr.cell? _ = some (.slice rp (row g k).length rc) at hcell
      change Nums wr _ _ (.slice rp (row g k).length rc) (row g k) at hnums
      have e0 : (0 : Int) ≤ (k : Int) := by omega
      have e1 : (k : Int) < (g.length : Int) := by omega
      go_wp2
      go_region_held3 (fun w' => w'.cell? ⟨w.heap.size, 0, none⟩ = some (.slice (some ⟨b, o, none⟩) g.length c) ∧ w'.cell? ⟨w.heap.size + 1, 0, none⟩ = some (.int .i64 V) ∧ w'.cell? ⟨b, o + k, none⟩ = some (.slice rp (row g k).length rc))
        (first | go_keep | exact ⟨hb5.at' hc0, hb5.at' hc1, hb5.at' hcell⟩)
        (first | (go_at_call 69; refine (l19Less_any _ _ V _ (hnums.below (below_dN (Below.refl _ _) 1))).mono ?_; rintro e w5 ⟨rv, rfl, hown5, hb5⟩))
      have hszr : wr.heap.size = wr.heap.size := rfl
      have hb5' : Below wr.heap.size wr w5 := ⟨hb5.os, hb5.tape, hb5.output, hb5.size, hb5.block⟩
      have hnr : Nums w5 2 .i64 rv (lessL (row g k) V) := Nums.of_owns hown5 rfl (by have := lessL_length (row g k) V; have := H1000.out k hlt; omega)
      clear hb5 hown5 hszr hnums
      have d1 := hb5'.at' hc1
      have d2 := hb5'.at' hc2
      have d3 := hb5'.at' hc3
      go_upto_if 27 with (fail)
      go_cut [7] (fun s7 wx => Nums wx 2 .i64 s7 (fr1 g ⟨V, A, B⟩ k) ∧ Below wr.heap.size wr wx)
      case first =>
        by_cases hV : (k : Int) = V
        · have hV' : ((k : Int) == V) = true := by simpa using hV
          have H := Lib.hid (fr1_yes (g := g) (f := ⟨V, A, B⟩) hV)
          clear hV
          go_wp2
          go_meet
          refine ⟨?_, hb5'.alloc hb5'.size _⟩
          rw [H.out]
          exact Nums.of_owns (ownsRow_empty _ _ 1) rfl (by simp)
        · have hV' : ((k : Int) == V) = false := by simpa using hV
          have H := Lib.hid (fr1_no (g := g) (f := ⟨V, A, B⟩) hV)
          clear hV
          go_wp2
          go_meet
          exact ⟨by rw [H.out]; exact hnr, hb5'⟩
      case rest =>
        rename_i hKk
        clear hnr d1 d2 d3 hb5'
        obtain ⟨hn1, hbc⟩ := hcut
        have d1 := hbc.at' hc1
        have d2 := hbc.at' hc2
        have d3 := hbc.at' hc3
        have hn1' := Lib.hid hn1
        clear hn1
        refine hKk _ _ ?_
        refine wp_seq_k (fun K1 hK1 => ?_)
        go_cut [7] (fun s7 wx => Nums wx 2 .i64 s7 (fr2 g ⟨V, A, B⟩ k) ∧ Below wr.heap.size wr wx)
        case first =>
          by_cases hA : (k : Int) = A ∧ 0 ≤ B
          · have hA' : ((k : Int) == A) = true := by simpa using hA.1
            have hB := hA.2
            have H := Lib.hid (fr2_yes (g := g) (f := ⟨V, A, B⟩) hA.1 hA.2)
            have hlf : (fr1 g ⟨V, A, B⟩ k).length ≤ 100000000 := by have := fr1_length g ⟨V, A, B⟩ k; have := H1000.out k hlt; omega
            clear hA
            go_wp2_with (go_at_call 115; refine (l1Into_any _ _ B hlf _ hn1'.out).mono ?_; rintro e w6 ⟨rv2, rfl, hn2, hb6⟩)
            go_meet
            exact ⟨by rw [H.out]; exact hn2, hbc.trans (hb6.mono hbc.size)⟩
          · have H := Lib.hid (fr2_no (g := g) (f := ⟨V, A, B⟩) hA)
            by_cases hA1 : (k : Int) = A
            · have hA' : ((k : Int) == A) = true := by simpa using hA1
              have hB : B < 0 := by omega
              clear hA hA1
              go_wp2
              go_meet
              exact ⟨by rw [H.out]; exact hn1'.out, hbc⟩
            · have hA' : ((k : Int) == A) = false := by simpa using hA1
              clear hA hA1
              go_wp2
              go_meet
              exact ⟨by rw [H.out]; exact hn1'.out, hbc⟩
        case rest =>
          clear hn1' d1 d2 d3 hbc
          obtain ⟨hn1, hbc⟩ := hcut
          have d1 := hbc.at' hc1
          have d2 := hbc.at' hc2
          have d3 := hbc.at' hc3
          have hn1' := Lib.hid hn1
          clear hn1
          go_upto_if 45 with (fail)
          go_cut [7] (fun s7 wx => Nums wx 2 .i64 s7 (foldRow g ⟨V, A, B⟩ k) ∧ Below wr.heap.size wr wx)
          case first =>
            by_cases hB : (k : Int) = B
            · have hB' : ((k : Int) == B) = true := by simpa using hB
              have H := Lib.hid (foldRow_yes (g := g) (f := ⟨V, A, B⟩) hB)
              have hlf : (fr2 g ⟨V, A, B⟩ k).length ≤ 100000000 := by have := fr2_length g ⟨V, A, B⟩ k; have := H1000.out k hlt; omega
              clear hB
              go_wp2_with (go_at_call 115; refine (l1Into_any _ _ A hlf _ hn1'.out).mono ?_; rintro e w6 ⟨rv2, rfl, hn2, hb6⟩)
              go_meet
              exact ⟨by rw [H.out]; exact hn2, hbc.trans (hb6.mono hbc.size)⟩
            · have hB' : ((k : Int) == B) = false := by simpa using hB
              have H := Lib.hid (foldRow_no (g := g) (f := ⟨V, A, B⟩) hB)
              clear hB
              go_wp2
              go_meet
              exact ⟨by rw [H.out]; exact hn1'.out, hbc⟩
          case rest =>
            clear hn1' d1 d2 d3 hbc
            obtain ⟨hn1, hbc⟩ := hcut
            obtain ⟨p7, c7, rfl, _⟩ := id hn1
            have Hb3c := Lib.hid (Hb3.out.keep hbc)
            obtain ⟨hob, hof, _⟩ := Hb3c.out
            have hownc := ownsRow_below Hown.out hbc
            have hszc := hbc.size
            have Hn1 := Lib.hid hn1
            clear hn1
            go_wp2_with (at_builtin; refine wpList_app1s ty_rows rfl rfl rfl hownc rfl rfl (by omega) (by omega) ?_; intro b7 c8 w7 hown7 hg7 _; have hb7 := below_grown (Below.refl (w.heap.size + 4) wc) hownc hg7 (Nat.le_refl _) (by omega); have hob7 := hb7.at (by omega) hob; have hof7 := (hb7.frozen (p := ⟨w.heap.size + 1 + 1 + 1, 0, none⟩) (by show w.heap.size + 1 + 1 + 1 < _; omega)).trans hof)
            go_roundw
            case rel =>
              obtain ⟨W, rfl, r1, r2, r3, r4, r5, r6, r7, r8⟩ := fold_step hbel hsz hbc hc0 hc1 hc2 hc3 Hb2.out Hb3.out Hown.out Hvl.out Hrows.out Hn1.out hown7 hg7
              exact ⟨k + 1, _, _, by omega, by go_num, r1, r2, r3, r4, r5, r6, r7, by simp [Hvl.out], r8⟩
            case measure => simp [intOf]; omega
    · obtain rfl : k = g.length := by omega
      obtain ⟨k2c, k2f, _⟩ := Hb2.out
      obtain ⟨k3c, k3f, _⟩ := Hb3.out
      have hsh : ∃ p c, ov = .slice p g.length c := by
        rcases Hown.out.2 with ⟨h1, h2⟩ | ⟨g1, cap, cur, h1, _⟩
        · exact ⟨none, 0, by rw [h1, h2]⟩
        · exact ⟨_, _, h1⟩
      obtain ⟨p9, c9, rfl⟩ := hsh
      go_wp2
      refine bodyPost_ret (v := .agg #[.slice p9 g.length c9]) (by simp [results, Tryd.results68, go_sem, k2c]) rfl ⟨_, rfl, ?_, ⟨_, _, rfl⟩, ?_⟩
      · have ho := ownsRow_setBox Hown.out Hb2.out (by decide) (.slice p9 g.length c9)
        have hlen := foldG_length g ⟨V, A, B⟩
        refine Rws.of_owned vals (by rw [hlen]; exact Hvl.out) (by rw [hlen]; exact ho) (by omega) fun j hj => ?_
        rw [hlen] at hj
        rw [row_foldG g _ hj]
        exact (Hrows.out j hj).setBox Hb2.out (by decide) _
      · exact hbel.setCell (by show w.heap.size ≤ w.heap.size + 1 + 1; omega) _

end Go.Proofs.YtfokiijcpkhllaaDoor

/- Walk: how the reference says that a vertex may be folded. -/
namespace Go.Proofs.YtfokiijcpkhllaaDoor
open Go.RowKit

theorem getD_zero {r : List Int} (h : 0 < r.length) (d : Int) : r.getD 0 d = r[0] := by simp [h]
theorem getD_one {r : List Int} (h : 1 < r.length) (d : Int) : r.getD 1 d = r[1] := by simp [h]

set_option maxRecDepth 100000 in
set_option maxHeartbeats 4000000 in
theorem l20At_any (v : Value) (g : List (List Int)) (k : Nat) (hk : k < g.length) (w : World) (hg : Gr w v g) :
    Calls Tryd.prog 67 #[v, .int .i64 k] w fun e w' => Below w.heap.size w w' ∧
      if (row g k).length ≤ 2 then e = .returned (.tuple #[fdVal (atRow k (row g k)), .bool true]) else e = .returned (.tuple #[fdVal ⟨0, 0, 0⟩, .bool false]) := by
  obtain ⟨u, rfl, hr⟩ := hg
  obtain ⟨p, c, rfl, _, _, hn⟩ := hr.shape
  obtain ⟨b, o, rp, rc, rfl, hcell, hnums⟩ := hr.get hk
  change w.cell? _ = some (.slice rp (row g k).length rc) at hcell
  change Nums w _ _ (.slice rp (row g k).length rc) (row g k) at hnums
  have hc3 : ∀ o1 o2 o3, (((w.alloc o1).alloc o2).alloc o3).cell? ⟨b, o + k, none⟩ = some (.slice rp (row g k).length rc) := fun o1 o2 o3 => (below_alloc3 w o1 o2 o3).at' hcell
  have hb3 := Lib.hid (below_alloc3 w)
  obtain ⟨_, _, hv, _, _, _, hat⟩ := hnums
  simp only [Value.slice.injEq, true_and] at hv
  obtain ⟨rfl, rfl⟩ := hv
  generalize row g k = r at *
  clear hr hcell
  by_cases h2 : r.length ≤ 2
  case neg =>
    simp only [h2, if_false]
    go_enter Tryd.func67, Tryd.ntmps67
    go_wp2
    refine bodyPost_ret (v := .tuple #[.agg #[.int .i64 0, .int .i64 0, .int .i64 0], .bool false]) (by simp [results, Tryd.results67, go_sem]) rfl ⟨hb3.out _ _ _, rfl⟩
  simp only [h2, if_true]
  by_cases h0 : 0 < r.length
  case neg =>
    have e : r = [] := List.eq_nil_of_length_eq_zero (by omega)
    subst e
    go_enter Tryd.func67, Tryd.ntmps67
    go_wp2
    refine bodyPost_ret (v := .tuple #[.agg #[.int .i64 k, .int .i64 (-1), .int .i64 (-1)], .bool true]) (by simp [results, Tryd.results67, go_sem]) rfl ⟨hb3.out _ _ _, rfl⟩
  obtain ⟨b2, o2, rfl, hcs⟩ := hat.cells (k := 0) (by simpa using h0)
  have e0 : ∀ o1 o2' o3, (((w.alloc o1).alloc o2').alloc o3).cell? ⟨b2, o2, none⟩ = some (.int .i64 (r.getD 0 (-1))) := fun o1 o2' o3 => (below_alloc3 w o1 o2' o3).at' (hcs 0 _ (by rw [getD_zero h0]; simp [h0]))
  by_cases h1 : 1 < r.length
  · have e1 : ∀ o1 o2' o3, (((w.alloc o1).alloc o2').alloc o3).cell? ⟨b2, o2 + 1, none⟩ = some (.int .i64 (r.getD 1 (-1))) := fun o1 o2' o3 => (below_alloc3 w o1 o2' o3).at' (hcs 1 _ (by rw [getD_one h1]; simp [h1]))
    have hf : atRow k r = ⟨k, r.getD 0 (-1), r.getD 1 (-1)⟩ := rfl
    rw [hf]
    clear hf hcs hat
    generalize r.getD 0 (-1) = x0 at *
    generalize r.getD 1 (-1) = x1 at *
    go_enter Tryd.func67, Tryd.ntmps67
    go_wp2
    refine bodyPost_ret (v := .tuple #[.agg #[.int .i64 k, .int .i64 x0, .int .i64 x1], .bool true]) (by simp [results, Tryd.results67, go_sem]) rfl ⟨hb3.out _ _ _, rfl⟩
  · have hf : atRow k r = ⟨k, r.getD 0 (-1), -1⟩ := by
      unfold atRow
      rw [show r.getD 1 (-1) = -1 from by simp [show r.length ≤ 1 by omega]]
    rw [hf]
    clear hf hcs hat
    generalize r.getD 0 (-1) = x0 at *
    go_enter Tryd.func67, Tryd.ntmps67
    go_wp2
    refine bodyPost_ret (v := .tuple #[.agg #[.int .i64 k, .int .i64 x0, .int .i64 (-1)], .bool true]) (by simp [results, Tryd.results67, go_sem]) rfl ⟨hb3.out _ _ _, rfl⟩

theorem l20At_yes (v : Value) (g : List (List Int)) (k : Nat) (hk : k < g.length) (w : World) (hg : Gr w v g) (h2 : (row g k).length ≤ 2) (V A B : Int) (hf : (⟨V, A, B⟩ : Fd) = atRow k (row g k)) :
    Calls Tryd.prog 67 #[v, .int .i64 k] w fun e w' => e = .returned (.tuple #[.agg #[.int .i64 V, .int .i64 A, .int .i64 B], .bool true]) ∧ Below w.heap.size w w' :=
  (l20At_any v g k hk w hg).mono fun e w' ⟨h, he⟩ => by
    simp only [h2, if_true] at he
    rw [← hf] at he
    exact ⟨he, h⟩
theorem l20At_no (v : Value) (g : List (List Int)) (k : Nat) (hk : k < g.length) (w : World) (hg : Gr w v g) (h2 : ¬ (row g k).length ≤ 2) :
    Calls Tryd.prog 67 #[v, .int .i64 k] w fun e w' => e = .returned (.tuple #[.agg #[.int .i64 0, .int .i64 0, .int .i64 0], .bool false]) ∧ Below w.heap.size w w' :=
  (l20At_any v g k hk w hg).mono fun e w' ⟨h, he⟩ => by
    simp only [h2, if_false] at he
    exact ⟨he, h⟩

end Go.Proofs.YtfokiijcpkhllaaDoor
