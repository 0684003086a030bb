/- Walks: the program's isSeries, SeriesIn, FoldedOf, TwoOrder. -/
import Derived.Test.YtiklocamfgopbaaDoorFoQ38
namespace Go.Proofs.YtiklocamfgopbaaDoor
open Go.RowKit

theorem all_any' (p : Option Addr) (n c M : Nat) (hn : n < 32) (hM : M = 2 ^ n - 1) (w : World) :
    Calls Tryd.prog 33 #[.slice p n c] w fun e w' => e = .returned (.int .u32 (M : Int)) ∧ w = w' := by
  subst hM; exact all_any p n c hn w

theorem bits_nil {l : Nat} (h : l < 65536) : (bitsOf l).length = 0 ↔ l = 0 := by
  constructor
  · intro e
    by_cases h0 : l = 0
    · exact h0
    · have := bitsOf_step l h0 (by omega)
      rw [this] at e
      simp at e
  · rintro rfl; rw [bitsOf_zero]; rfl

theorem nOk_start {g : List (List Int)} (h : GOk g) {M : Nat} (hM : M = 2 ^ g.length - 1) : NOk (netL g) M ∧ (bitsOf M).length ≤ 16 ∧ (netL g).length = g.length := by
  subst hM
  have hs := same_start h
  refine ⟨⟨hs.le, hs.lt, hs.left16, hs.inn⟩, ?_, hs.len.symm⟩
  have := natInts_range g.length h.le
  rw [← natInts_length, this, allL_length]
  exact h.le

theorem foldsN_S {g : List (List Int)} (h : GOk g) {M : Nat} (hM : M = 2 ^ g.length - 1) {fs : List Fd} {l : Nat} {a' : List Nat} (hf : FoldsN (netL g) M fs l a') : ∃ g', Folds g (allL g.length) fs (natInts (bitsOf l)) g' := by
  subst hM
  obtain ⟨g', h1, _⟩ := hf.same (same_start h)
  exact ⟨g', h1⟩

set_option maxRecDepth 100000 in
set_option maxHeartbeats 2000000 in
theorem isSeries_any (x : Value) (y : Int) (a : List Nat) (s : Nat) (hy : y = s) (hok : NOk a s) (hcnt : (bitsOf s).length ≤ 16) (w : World) (hx : Sl w 56 x a.length (a.map u32v)) (hT : Tab w) :
    Calls Tryd.prog 61 #[x, .int .u32 y] w fun e w' => ∃ (fs : List Fd) (l : Nat) (a' : List Nat), e = .returned (.bool (dec (l = 0))) ∧ FoldsN a s fs l a' ∧ l < 65536 ∧ Below w.heap.size w w' := by
  subst hy
  have hbA := below_alloc w (.cells #[] 56)
  have hx1 := hx.below hbA
  have ho := ownsRow_empty w 56 1
  have hT1 := hT.keep hbA
  have hle := hok.le
  have hpos := hT.pos
  have hsz := hbA.size
  have h1 : ∀ v ∈ a.map u32v, v.oneCell' = true := by
    intro v hv
    obtain ⟨i, _, rfl⟩ := List.mem_map.1 hv
    rfl
  obtain ⟨p, c, rfl⟩ := hx.shape
  have HOK := Lib.hid hok
  have HC := Lib.hid hcnt
  clear hok hx hT hcnt
  go_enter Tryd.func61, Tryd.ntmps61
  go_wp2_with (first
    | (at_builtin; refine wpList_app ty_nets rfl rfl rfl ho rfl hx1 (by simp) h1 (by omega) hsz ?_; intro v' w1 hown1 hg1 _; simp only [Nat.zero_add, List.nil_append] at hown1; have HB1 := Lib.hid (below_grown hbA ho hg1 (Nat.le_refl _) hsz); have HT1 := Lib.hid (hT1.grown hg1 (fun e => by have := (ho.lt _ e.symm).1; omega)))
    | (go_at_call 81; refine (foldedOf_any _ _ a s w.heap.size rfl HOK.out HC.out _ hown1 HT1.out hpos).mono ?_; rintro e w2 ⟨ov, fs, l, a', rfl, hF, _, _, _, hok2, _, hg2⟩; have HF := Lib.hid hF; have HB2 := Lib.hid (below_grown HB1.out hown1 hg2 (Nat.le_refl _) HB1.out.size); have hl := hok2.left16; clear hF hok2))
  by_cases hz : l = 0
  · subst hz
    go_wp2
    go_ret
    exact ⟨fs, 0, a', by rw [dec_true rfl]; rfl, HF.out, hl, HB2.out⟩
  · have hz2 : ((l : Int) == 0) = false := by simpa using hz
    go_wp2
    go_ret
    exact ⟨fs, l, a', by rw [dec_false hz, ← hz2]; rfl, HF.out, hl, HB2.out⟩

set_option maxRecDepth 100000 in
set_option maxHeartbeats 2000000 in
theorem implSeriesIn_any (v : Value) (g : List (List Int)) (w : World) (hg : Gr w v g) (hT : Tab w) :
    Calls Tryd.prog 31 #[v] w fun e w' => e = .returned (.bool (dec (SerS g))) ∧ Below w.heap.size w w' := by
  have hg0 := hg
  obtain ⟨u, rfl, hr⟩ := hg
  obtain ⟨p, c, rfl, _, _, _⟩ := hr.shape
  have hbA := Lib.hid (below_alloc w (.cells #[.slice p g.length c] 30))
  have HG := Lib.hid (hg0.below hbA.out)
  have BX := Lib.hid (Box.new w (.slice p g.length c) 30)
  have HT := Lib.hid (hT.keep hbA.out)
  have hpos := hT.pos
  clear hr hg0 hT
  by_cases hok : GOk g
  case neg =>
    have hd := dec_false hok
    have Hok := Lib.hid hok
    clear hok
    go_enter Tryd.func31, Tryd.ntmps31
    go_wp2_with (go_at_call 30; refine (implGraphOk_any _ g _ HG.out).mono ?_; rintro e w2 ⟨rfl, hb2⟩)
    go_ret
    exact ⟨by rw [dec_false (fun h => Hok.out h.1)]; rfl, hbA.out.trans (hb2.mono hbA.out.size)⟩
  have hd := dec_true hok
  obtain ⟨M, hM⟩ : ∃ M, M = 2 ^ g.length - 1 := ⟨_, rfl⟩
  obtain ⟨hn1, hn2, hn3⟩ := nOk_start hok hM
  have hle := hok.le
  have HM := Lib.hid hM
  have N1 := Lib.hid hn1
  have N2 := Lib.hid hn2
  have N3 := Lib.hid hn3
  have Hok := Lib.hid hok
  clear hok hM hn1 hn2 hn3
  go_enter Tryd.func31, Tryd.ntmps31
  go_wp2_with (first
    | (go_at_call 30; refine (implGraphOk_any _ g _ HG.out).mono ?_; rintro e w2 ⟨rfl, hb2⟩; have hbx := (BX.out.keep hb2).cell; have s2 := hb2.size)
    | (go_at_call 32; refine (netsOf_any _ g _ (HG.out.below hb2) Hok.out).mono ?_; rintro e w3 ⟨x, rfl, hown3, hb3⟩; have hx3 := Sl.of_owns hown3 (by omega); obtain ⟨xp, xc, rfl⟩ := hx3.shape; have HX3 := Lib.hid hx3; have HT3 := Lib.hid ((HT.out.keep hb2).keep hb3); clear hx3 hown3)
    | (go_at_call 33; refine (all_any' _ _ _ M (by omega) HM.out _).mono ?_; rintro e w4 ⟨rfl, rfl⟩)
    | (go_at_call 61; refine (isSeries_any _ _ (netL g) M rfl N1.out N2.out _ (by rw [N3.out]; exact HX3.out) HT3.out).mono ?_; rintro e w5 ⟨fs, l, a', rfl, hF, hl65, hb5⟩; have HF := Lib.hid hF; clear hF))
  go_ret
  have hb := ((hbA.out.trans (hb2.mono hbA.out.size)).trans (hb3.mono (by have := hbA.out.size; omega))).trans (hb5.mono (by have := hbA.out.size; have := hb3.size; omega))
  obtain ⟨g', hF⟩ := foldsN_S Hok.out HM.out HF.out
  refine ⟨?_, hb⟩
  have e : dec (l = 0) = dec (SerS g) := dec_congr (by rw [serS_iff Hok.out hF, natInts_length]; exact (bits_nil (by omega)).symm)
  rw [← e]; rfl

end Go.Proofs.YtiklocamfgopbaaDoor
