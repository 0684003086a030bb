/- Plain: a trail is there just where at most two are odd, and all edges are in one part. -/
import Derived.Test.YtjdlmjmhlbpooaaDoorTlQQ14
import Derived.Test.YtjdlmjmhlbpooaaDoorTlQQ15
namespace Go.Proofs.YtjdlmjmhlbpooaaDoor

theorem countP_le_one {α : Type} {p : α → Bool} : ∀ {l : List α}, (l.Pairwise fun a b => ¬ (p a = true ∧ p b = true)) → l.countP p ≤ 1
  | [], _ => by simp
  | a :: l, h => by
    obtain ⟨h1, h2⟩ := List.pairwise_cons.1 h
    have ih := countP_le_one h2
    rw [List.countP_cons]
    by_cases ha : p a = true
    · have : l.countP p = 0 := List.countP_eq_zero.2 fun b hb hp => h1 b hb ⟨ha, hp⟩
      simp [this, ha]
    · simp [ha]; exact ih
theorem countP_same {α : Type} {p : α → Bool} : ∀ {l : List α} {a b : α}, l.countP p ≤ 1 → a ∈ l → b ∈ l → p a = true → p b = true → a = b
  | [], _, _, _, h, _, _, _ => by simp at h
  | c :: l, a, b, h, ha, hb, hpa, hpb => by
    rw [List.countP_cons] at h
    rcases List.mem_cons.1 ha with rfl | ha2
    · rcases List.mem_cons.1 hb with rfl | hb2
      · rfl
      · exfalso
        have : 0 < l.countP p := List.countP_pos_iff.2 ⟨b, hb2, hpb⟩
        rw [if_pos hpa] at h
        omega
    · rcases List.mem_cons.1 hb with rfl | hb2
      · exfalso
        have : 0 < l.countP p := List.countP_pos_iff.2 ⟨a, ha2, hpa⟩
        rw [if_pos hpb] at h
        omega
      · exact countP_same (by omega) ha2 hb2 hpa hpb
theorem countP_but {p : Nat → Bool} {v : Nat} {l : List Nat} (hn : l.Nodup) : l.countP p ≤ l.countP (fun j => p j && !(j == v)) + 1 := by
  by_cases h : v ∈ l ∧ p v = true
  · rw [countP_cut hn h.1 h.2]
    exact Nat.le_refl _
  · have : l.countP p ≤ l.countP (fun j => p j && !(j == v)) := List.countP_mono_left fun x hx hp => by
      have : x ≠ v := fun e => h ⟨e ▸ hx, e ▸ hp⟩
      simp [hp, this]
    omega
theorem parts_closed {E : Nat → Nat → Bool} (hs : ∀ r j, E r j = true → E j r = true) {L : List Nat} {ps : List (List Nat)} (h : Parts E L ps) : ∀ p ∈ ps, ∀ x ∈ p, ∀ y, y ∈ L → E x y = true → y ∈ p := by
  induction h with
  | done => intro p hp; simp at hp
  | step u L ps h1 ih =>
    intro p hp x hx y hy hE
    rcases List.mem_cons.1 hp with rfl | hp
    · exact mem_partL.2 ⟨hy, .step (mem_partL.1 hx).2 hE hy⟩
    · have hx2 := mem_restL.1 (parts_in h1 p hp x hx)
      refine ih p hp x hx y (mem_restL.2 ⟨hy, fun hr => hx2.2 (.step hr (hs _ _ hE) hx2.1)⟩) hE
theorem parts_cover {E : Nat → Nat → Bool} {L : List Nat} {ps : List (List Nat)} (h : Parts E L ps) : ∀ x ∈ L, ∃ p ∈ ps, x ∈ p := by
  induction h with
  | done => intro x hx; simp at hx
  | step u L ps h1 ih =>
    intro x hx
    by_cases hr : Rch E (· ∈ u :: L) u x
    · exact ⟨_, by simp, mem_partL.2 ⟨hx, hr⟩⟩
    · obtain ⟨p, hp, hxp⟩ := ih x (mem_restL.2 ⟨hx, hr⟩)
      exact ⟨p, by simp [hp], hxp⟩
theorem conn_deg {n : Nat} {E : Nat → Nat → Bool} {p : List Nat} (h : ConnL E p) (hr : p.Pairwise (· < ·)) (hl : 1 < p.length) (hn : ∀ x ∈ p, x < n) : ∃ x ∈ p, 0 < degN n E x := by
  cases p with
  | nil => simp at hl
  | cons a p =>
    cases p with
    | nil => simp at hl
    | cons b p =>
      have hab : a < b := (List.pairwise_cons.1 hr).1 b (by simp)
      have h1 := h.2 b (by simp)
      simp only [List.headD_cons] at h1
      refine Classical.byContradiction fun hno => ?_
      have hd : ¬ 0 < degN n E a := fun hd => hno ⟨a, by simp, hd⟩
      have : b = a := rch_closed (T := fun x => x = a) rfl (fun x y hx hE hy => by
        subst hx
        exact absurd (degN_pos.2 ⟨y, hn y hy, hE⟩) hd) b h1
      omega
theorem deg_part {n : Nat} {E : Nat → Nat → Bool} (hs : ∀ r j, E r j = true → E j r = true) (hi : ∀ r, E r r = false) {ps : List (List Nat)} (h : Parts E (List.range n) ps) {x : Nat} (hx : x < n) (hd : 0 < degN n E x) : ∃ p ∈ ps, x ∈ p ∧ 1 < p.length := by
  obtain ⟨p, hp, hxp⟩ := parts_cover h x (List.mem_range.2 hx)
  obtain ⟨y, hy, hE⟩ := degN_pos.1 hd
  have hyp := parts_closed hs h p hp x hxp y (List.mem_range.2 hy) hE
  refine ⟨p, hp, hxp, ?_⟩
  match p, hxp, hyp with
  | [a], hxp, hyp =>
    exfalso
    have e1 : x = a := by simpa using hxp
    have e2 : y = a := by simpa using hyp
    rw [e1, e2, hi] at hE
    exact absurd hE (by decide)
  | a :: b :: p, _, _ => simp
theorem conn_two {n : Nat} {E : Nat → Nat → Bool} (hs : ∀ r j, E r j = true → E j r = true) {p : List Nat} (h : ConnL E p) (hn : ∀ x ∈ p, x < n) {x y : Nat} (hx : x ∈ p) (hy : y ∈ p) : Rch E (· ∈ List.range n) x y := by
  have hh : p.headD 0 ∈ p := by
    cases p with
    | nil => simp at hx
    | cons a p => simp
  exact rch_mono (fun z hz => List.mem_range.2 (hn z hz)) y (rch_trans (rch_sym hs hh (h.2 x hx)) (h.2 y hy))

theorem tr_iff {n : Nat} {E : Nat → Nat → Bool} (hs : ∀ r j, E r j = true → E j r = true) (hi : ∀ r, E r r = false) (hn : 0 < n) {ps : List (List Nat)} (h : Parts E (List.range n) ps) :
    (∃ v, v < n ∧ Tr n E v) ↔ (List.range n).countP (fun v => degN n E v % 2 == 1) ≤ 2 ∧ ps.countP (fun p => decide (1 < p.length)) ≤ 1 := by
  have hin : ∀ p ∈ ps, ∀ x ∈ p, x < n := fun p hp x hx => List.mem_range.1 (parts_in h p hp x hx)
  constructor
  · rintro ⟨v, hv, h1, h2⟩
    constructor
    · have e1 := countP_but (p := fun v => degN n E v % 2 == 1) (v := v) (l := List.range n) List.nodup_range
      have e2 : (List.range n).countP (fun j => degN n E j % 2 == 1 && !(j == v)) ≤ 1 := by
        refine countP_le_one (List.Pairwise.imp_of_mem (R := (· ≠ ·)) (fun {a b} ha hb hab => ?_) List.nodup_range)
        rintro ⟨k1, k2⟩
        simp only [Bool.and_eq_true, beq_iff_eq, Bool.not_eq_true', beq_eq_false_iff_ne] at k1 k2
        exact hab (h2 a b (List.mem_range.1 ha) (List.mem_range.1 hb) k1.1 k2.1 k1.2 k2.2)
      omega
    · refine countP_le_one (List.Pairwise.imp_of_mem (fun {p q} hp hq hpq => ?_) (parts_apart h))
      rintro ⟨k1, k2⟩
      simp only [decide_eq_true_eq] at k1 k2
      have hri := parts_ris h List.pairwise_lt_range
      obtain ⟨x, hx, hdx⟩ := conn_deg (parts_conn h p hp) (hri p hp) k1 (hin p hp)
      obtain ⟨y, hy, hdy⟩ := conn_deg (parts_conn h q hq) (hri q hq) k2 (hin q hq)
      have r1 := h1 x (hin p hp x hx) hdx
      have r2 := h1 y (hin q hq y hy) hdy
      have r3 : Rch E (· ∈ List.range n) x y := rch_trans (rch_sym hs (List.mem_range.2 hv) r1) r2
      have : y ∈ p := rch_closed (T := (· ∈ p)) hx (fun a b ha hE hb => parts_closed hs h p hp a ha b hb hE) y r3
      exact (hpq y this y hy).1 rfl
  · rintro ⟨h1, h2⟩
    have he := odd_even hs hi (fun _ => true) (n := n) (fun _ _ _ _ _ => rfl)
    have ef : (List.range n).filter (fun _ => true) = List.range n := List.filter_eq_self.2 fun _ _ => rfl
    rw [ef] at he
    have reach : ∀ v, v < n → 0 < degN n E v → ∀ x, x < n → 0 < degN n E x → Rch E (· ∈ List.range n) v x := by
      intro v hv hdv x hx hdx
      obtain ⟨p, hp, hvp, hlp⟩ := deg_part hs hi h hv hdv
      obtain ⟨q, hq, hxq, hlq⟩ := deg_part hs hi h hx hdx
      obtain rfl := countP_same h2 hp hq (by simpa using hlp) (by simpa using hlq)
      exact conn_two hs (parts_conn h p hp) (hin p hp) hvp hxq
    by_cases h0 : ∃ v, v < n ∧ oddV n E v
    · obtain ⟨v, hv, hov⟩ := h0
      have hdv : 0 < degN n E v := by unfold oddV at hov; omega
      refine ⟨v, hv, reach v hv hdv, fun x y hx hy hox hoy hxv hyv => ?_⟩
      refine Classical.byContradiction fun hxy => ?_
      have c1 := countP_cut (f := fun v => degN n E v % 2 == 1) List.nodup_range (List.mem_range.2 hv) (by unfold oddV at hov; simpa using hov)
      have c2 := countP_cut (f := fun j => (degN n E j % 2 == 1) && !(j == v)) List.nodup_range (List.mem_range.2 hx) (by unfold oddV at hox; simp [hox, hxv])
      have c3 := countP_cut (f := fun j => ((degN n E j % 2 == 1) && !(j == v)) && !(j == x)) List.nodup_range (List.mem_range.2 hy) (by unfold oddV at hoy; simp [hoy, hyv, Ne.symm hxy])
      omega
    · have hno : ∀ x, x < n → ¬ oddV n E x := fun x hx ho => h0 ⟨x, hx, ho⟩
      by_cases hd : ∃ v, v < n ∧ 0 < degN n E v
      · obtain ⟨v, hv, hdv⟩ := hd
        exact ⟨v, hv, reach v hv hdv, fun x y hx _ hox => absurd hox (hno x hx)⟩
      · exact ⟨0, hn, fun x hx hdx => absurd ⟨x, hx, hdx⟩ hd, fun x y hx _ hox => absurd hox (hno x hx)⟩

end Go.Proofs.YtjdlmjmhlbpooaaDoor

/- Plain: what both test of the odd ones. -/
namespace Go.Proofs.YtjdlmjmhlbpooaaDoor

def oddsN (n : Nat) (E : Nat → Nat → Bool) (k : Nat) : Nat := (List.range k).countP fun v => degN n E v % 2 == 1
theorem oddsN_zero (n : Nat) (E : Nat → Nat → Bool) : oddsN n E 0 = 0 := rfl
theorem oddsN_succ (n : Nat) (E : Nat → Nat → Bool) (k : Nat) : oddsN n E (k + 1) = oddsN n E k + degN n E k % 2 := by
  unfold oddsN
  rw [List.range_succ, List.countP_append, List.countP_singleton]
  have : degN n E k % 2 = 0 ∨ degN n E k % 2 = 1 := by omega
  rcases this with h | h <;> simp [h]
theorem oddsN_le (n : Nat) (E : Nat → Nat → Bool) (k : Nat) : oddsN n E k ≤ k := by
  have := List.countP_le_length (p := fun v => degN n E v % 2 == 1) (l := List.range k)
  simpa [oddsN] using this
theorem oddC_iff {n : Nat} {E : Nat → Nat → Bool} (hs : ∀ r j, E r j = true → E j r = true) (hi : ∀ r, E r r = false) {v : Nat} (hv : v < n) : OddC n E v ↔ oddsN n E n ≤ 2 ∧ (oddsN n E n = 0 ∨ oddV n E v) := by
  constructor
  · intro h
    by_cases ho : oddV n E v
    · refine ⟨?_, .inr ho⟩
      have e1 := countP_but (p := fun v => degN n E v % 2 == 1) (v := v) (l := List.range n) List.nodup_range
      have e2 : (List.range n).countP (fun j => degN n E j % 2 == 1 && !(j == v)) ≤ 1 := by
        refine countP_le_one (List.Pairwise.imp_of_mem (R := (· ≠ ·)) (fun {a b} ha hb hab => ?_) List.nodup_range)
        rintro ⟨k1, k2⟩
        simp only [Bool.and_eq_true, beq_iff_eq, Bool.not_eq_true', beq_eq_false_iff_ne] at k1 k2
        exact hab (h a b (List.mem_range.1 ha) (List.mem_range.1 hb) k1.1 k2.1 k1.2 k2.2)
      unfold oddsN
      omega
    · have h0 : oddsN n E n = 0 := countP_none fun y hy hp => no_odd hs hi h ho y (List.mem_range.1 hy) (by unfold oddV; simpa using hp)
      omega
  · rintro ⟨h1, h2⟩ x y hx hy hox hoy hxv hyv
    have hpos : 0 < oddsN n E n := List.countP_pos_iff.2 ⟨x, List.mem_range.2 hx, by unfold oddV at hox; simpa using hox⟩
    rcases h2 with h2 | h2
    · omega
    · have c1 := countP_cut (f := fun v => degN n E v % 2 == 1) List.nodup_range (List.mem_range.2 hv) (by unfold oddV at h2; simpa using h2)
      unfold oddsN at h1
      refine countP_same (p := fun j => degN n E j % 2 == 1 && !(j == v)) (by omega) (List.mem_range.2 hx) (List.mem_range.2 hy) ?_ ?_
      · unfold oddV at hox; simp [hox, hxv]
      · unfold oddV at hoy; simp [hoy, hyv]
theorem odds_even {n : Nat} {E : Nat → Nat → Bool} (hs : ∀ r j, E r j = true → E j r = true) (hi : ∀ r, E r r = false) : oddsN n E n % 2 = 0 := by
  have he := odd_even hs hi (fun _ => true) (n := n) (fun _ _ _ _ _ => rfl)
  have ef : (List.range n).filter (fun _ => true) = List.range n := List.filter_eq_self.2 fun _ _ => rfl
  rw [ef] at he
  exact he
/-- Reached are all that have edges. -/
def AllR (n : Nat) (E : Nat → Nat → Bool) (v : Nat) : Prop := ∀ x, x < n → 0 < degN n E x → Rch E (· ∈ List.range n) v x
theorem tr_two {n : Nat} {E : Nat → Nat → Bool} (hs : ∀ r j, E r j = true → E j r = true) (hi : ∀ r, E r r = false) {v : Nat} (hv : v < n) : Tr n E v ↔ AllR n E v ∧ oddsN n E n ≤ 2 ∧ (oddsN n E n = 0 ∨ oddV n E v) := by
  unfold Tr AllR
  rw [oddC_iff hs hi hv]

end Go.Proofs.YtjdlmjmhlbpooaaDoor

/- Walks: the reference's sets of neighbours, what is reached, whether one can go on (l25Bits, l27Part, l28Goes). -/
namespace Go.Proofs.YtjdlmjmhlbpooaaDoor
open Go.RowKit

/-- A row of sets, in int64. -/
theorem i64_cell {w : World} {p : Option Addr} {n c : Nat} {a : List Nat} (h : Sl w 2 (.slice p n c) a.length (a.map i64v)) {v : Nat} (hv : v < a.length) :
    ∃ b o, p = some ⟨b, o, none⟩ ∧ w.cell? ⟨b, o + v, none⟩ = some (.int .i64 (a[v] : Int)) := by
  obtain ⟨p', c', he, _, _, _, hat⟩ := h
  simp only [Value.slice.injEq] at he
  obtain ⟨rfl, rfl, rfl⟩ := he
  obtain ⟨b, o, h1, h2⟩ := hat.cells (k := v) (by simpa using hv)
  exact ⟨b, o, h1, h2 v _ (by simp [hv, i64v])⟩

set_option maxRecDepth 100000 in
set_option maxHeartbeats 2000000 in
theorem l25Bits_any (v : Value) (g : List (List Int)) (w : World) (hg : Gr w v g) (hok : GOk g) :
    Calls Tryd.prog 52 #[v] w fun e w' => ∃ u, e = .returned u ∧
      w'.ownsRow w.heap.size 2 1 u g.length ((netL g).map i64v) ∧ Below w.heap.size w w' := by
  obtain ⟨u, rfl, hr⟩ := hg
  obtain ⟨p, c, rfl, _, _, hn⟩ := hr.shape
  have h16 := hok.le
  have hbb := below_alloc w (.cells #[.slice p g.length c] 29)
  have hbox := cell_new w (.slice p g.length c) 29
  have BX := Lib.hid (Box.new w (.slice p g.length c) 29)
  have HOK := Lib.hid hok
  clear hok
  go_enter Tryd.func52, Tryd.ntmps52
  go_wp2
  go_loopw [3, 4] (fun o i wr => ∃ k : Nat, k ≤ g.length ∧ i = .int .i64 k ∧ wr.ownsRow (w.heap.size + 1) 2 1 o k ((netL (g.take k)).map i64v) ∧ Below w.heap.size w wr ∧ Box wr w.heap.size 29 (.slice p g.length c)) (fun _ i _ => g.length - (intOf i).toNat)
  case atStart => exact ⟨0, Nat.zero_le _, rfl, ownsRow_empty' _ _ _ _ _ (by omega), hbb.alloc (by rw [size_alloc]; omega) _, BX.out.alloc _⟩
  case round =>
    clear hbox hbb
    obtain ⟨k, hk, rfl, hown, hbel, hbxr⟩ := hrel
    have hszr := hbel.size
    have hbc := hbxr.cell
    have HBX := Lib.hid hbxr
    clear hbxr
    by_cases hlt : k < g.length
    · obtain ⟨b, o, rp, rc, rfl, hcell, hnums⟩ := (hr.below hbel).get hlt
      change wr.cell? _ = some (.slice rp (row g k).length rc) at hcell
      change Nums wr _ _ (.slice rp (row g k).length rc) (row g k) at hnums
      have HIN : Hid (∀ x ∈ row g k, 0 ≤ x ∧ x < 16) := Lib.hid (fun x hx => by have := (HOK.out.sets k hlt).1.1 x hx; omega)
      have ht := Lib.hid (take_snoc' g k hlt)
      have He : Hid (g[k] = row g k) := Lib.hid (by simp [row, hlt])
      have hrl : (row g k).length ≤ 16 := gOk_row_le HOK.out k hlt
      have HN := Lib.hid hnums
      clear hnums
      obtain ⟨wo, rfl⟩ : ∃ wo, wo = wr := ⟨_, rfl⟩
      go_wp2
      go_loopw [5, 6] (fun m t wx => ∃ (a j : Nat), m = .int .i64 a ∧ t = .int .i64 j ∧ j ≤ (row g k).length ∧ a = mask ((row g k).take j) ∧ wx = wo) (fun _ t _ => (row g k).length - (intOf t).toNat)
      case atStart => exact ⟨0, 0, rfl, rfl, Nat.zero_le _, by simp [mask], rfl⟩
      case round =>
        obtain ⟨a, j, rfl, rfl, hj, ha, rfl⟩ := hrel
        by_cases hjl : j < (row g k).length
        · obtain ⟨rb, ro, rfl, hc⟩ := HN.out.get hjl
          have hxx := HIN.out _ (List.getElem_mem hjl)
          obtain ⟨x, hx⟩ : ∃ x : Nat, (row g k)[j] = (x : Int) := ⟨((row g k)[j]).toNat, by omega⟩
          have hts := Lib.hid (take_snoc (row g k) j hjl)
          rw [hx] at hc hxx
          have HX := Lib.hid hx
          have hx16 : x < 16 := by omega
          have hwp := wrap_pow x (by omega)
          have ha16 : a < 65536 := by rw [ha]; exact mask_take_lt16 HIN.out j
          have hp16 := pow_lt16 x hx16
          have HA := Lib.hid ha
          obtain ⟨q, hq⟩ : ∃ q, q = 2 ^ x := ⟨_, rfl⟩
          rw [← hq] at hwp hp16
          have HQ := Lib.hid hq
          have hor := i64_or_nat a q (Nat.lt_trans ha16 (by decide)) (Nat.lt_trans hp16 (by decide))
          have HM : Hid (a ||| q = mask ((row g k).take (j + 1))) := Lib.hid (by rw [hts.out, mask_snoc, ← ha, hx, hq]; rfl)
          generalize a ||| q = r at hor HM
          clear hx hq ha
          go_wp2
          go_roundw
          case rel => exact ⟨r, j + 1, rfl, by go_num, by omega, HM.out, trivial⟩
          case measure => simp [intOf]; omega
        · obtain rfl : j = (row g k).length := by omega
          rw [List.take_length] at ha
          have HA := Lib.hid ha
          have hk9 : k < 1000000000 := by omega
          clear ha
          go_wp2_with (at_builtin; refine wpList_app1 ty_i64 rfl rfl rfl hown rfl rfl hk9 HBX.out.lt ?_; intro v' w1 hown' hg _)
          go_roundw
          case rel =>
            refine ⟨k + 1, by omega, by go_num, ?_, below_grown hbel hown hg (Nat.le_succ _) hszr, ?_⟩
            · rw [ht.out, netL, List.map_append, List.map_append, List.map_singleton, List.map_singleton, He.out, ← HA.out]
              exact hown'
            · exact HBX.out.grown hg (fun e => by have := (hown.lt _ e.symm).1; omega)
          case measure => simp [intOf]; omega
    · obtain rfl : k = g.length := by omega
      go_wp2
      go_ret
      rw [List.take_length] at hown
      exact ⟨_, rfl, ownsRow_base hown (Nat.le_succ _), hbel⟩

end Go.Proofs.YtjdlmjmhlbpooaaDoor
