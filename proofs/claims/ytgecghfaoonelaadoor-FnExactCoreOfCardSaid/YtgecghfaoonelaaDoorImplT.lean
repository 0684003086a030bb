/- Walk: the program's TwoOrder. -/
import Derived.Test.YtgecghfaoonelaaDoorImplS
namespace Go.Proofs.YtgecghfaoonelaaDoor
open Go.RowKit

set_option maxRecDepth 100000 in
set_option maxHeartbeats 4000000 in
theorem implTwoOrder_any (v : Value) (g : List (List Int)) (w : World) (hg : Gr w v g) (hT : Tab w) :
    Calls Tryd.prog 11 #[v] w fun e w' => ∃ (ov : Value) (ys : List Int), e = .returned (.tuple #[ov, .bool (dec (SerS g))]) ∧ TwoS g ys ∧ ys.length ≤ 16 ∧
      w'.ownsRow w.heap.size 2 1 ov ys.length (ys.map (Value.int .i64)) ∧ Below w.heap.size w w' := by
  have hg0 := hg
  obtain ⟨u, rfl, hr⟩ := hg
  obtain ⟨p, c, rfl, _, _, _⟩ := hr.shape
  have hbA := Lib.hid (below_alloc w (.cells #[.slice p g.length c] 29))
  have HG := Lib.hid (hg0.below hbA.out)
  have BX := Lib.hid (Box.new w (.slice p g.length c) 29)
  have HT := Lib.hid (hT.keep hbA.out)
  clear hr hg0 hT
  by_cases hok : SerS g
  case neg =>
    have hd := dec_false hok
    have Hok := Lib.hid hok
    clear hok
    go_enter Tryd.func11, Tryd.ntmps11
    go_wp2_with (go_at_call 35; refine (implSeriesIn_any _ g _ HG.out HT.out).mono ?_; rintro e w2 ⟨rfl, hb2⟩)
    go_ret2
    exact ⟨.slice none 0 0, [], by rw [hd]; rfl, .inr ⟨Hok.out, rfl⟩, by simp, ⟨rfl, .inl ⟨rfl, rfl⟩⟩, hbA.out.trans (hb2.mono hbA.out.size)⟩
  have hd := dec_true hok
  have Hok := Lib.hid hok
  clear hok
  go_enter Tryd.func11, Tryd.ntmps11
  go_wp2_with (first
    | (go_at_call 35; refine (implSeriesIn_any _ g _ HG.out HT.out).mono ?_; rintro e w2 ⟨rfl, hb2⟩; have hbx := (BX.out.keep hb2).cell; have hbf := (BX.out.keep hb2).free)
    | (go_at_call 18; refine (implFoldedOf_any _ g _ (HG.out.below hb2) (HT.out.keep hb2)).mono ?_; rintro e w3 ⟨ov, lv, fs, l, rfl, hF, ho, hn, hfl, _, hb3⟩; have HF := Lib.hid hF; have hfd := Lib.hid (Fds.of_owns ho (by omega)); obtain ⟨fp, fc, rfl, _⟩ := hfd.out.shape))
  clear ho hn hF
  have hb23 := hb2.trans (hb3.mono hb2.size)
  have hbW := hbA.out.trans (hb23.mono hbA.out.size)
  have hbN := Lib.hid (hbW.alloc hbW.size (.cells #[] 2))
  have hfd' := Lib.hid (hfd.out.below (below_alloc w3 (.cells #[] 2)))
  have hoN := Lib.hid (ownsRow_base (ownsRow_empty w3 2 1) hbW.size)
  clear hbx hbf hb2 hb3 hb23 hbW hfd
  go_loopw [6, 8, 20] (fun u _ i wr => ∃ k : Nat, k ≤ fs.length ∧ i = .int .i64 k ∧ wr.ownsRow w.heap.size 2 1 u k ((fs.take k).map fun f => Value.int .i64 f.V) ∧ Fds wr (.slice fp fs.length fc) fs ∧ Below w.heap.size w wr)
    (fun _ _ i _ => fs.length - (intOf i).toNat)
  case atStart => exact ⟨0, Nat.zero_le _, rfl, hoN.out, hfd'.out, hbN.out⟩
  case round =>
    obtain ⟨k, hk, rfl, hown, hfds, hbel⟩ := hrel
    have hsz := hbel.size
    by_cases hlt : k < fs.length
    · obtain ⟨_, _, e1, _, _, _, hat⟩ := id hfds.shape
      cases e1
      obtain ⟨b, o, rfl, c0, c1, c2⟩ := hat.fold hlt
      have Hfds := Lib.hid hfds
      clear hat hfds
      have ht := Lib.hid (take_snoc fs k hlt)
      have hbox := below_alloc wr (.cells #[.int .i64 fs[k].V, .int .i64 fs[k].A, .int .i64 fs[k].B] 52)
      have HO := Lib.hid (ownsRow_below hown hbox)
      have HB := Lib.hid (hbel.alloc hsz (.cells #[.int .i64 fs[k].V, .int .i64 fs[k].A, .int .i64 fs[k].B] 52))
      have HFd := Lib.hid (Hfds.out.below hbox)
      clear hbox hown
      go_wp2_with (at_builtin; refine wpList_app1 ty_i64 rfl rfl rfl HO.out (by rw [size_alloc]; rfl) rfl (by omega) HB.out.size ?_; intro v' w1 hown' hg _)
      go_roundw
      case rel =>
        refine ⟨k + 1, by omega, by go_num, ?_, Sl.other HFd.out HO.out hg (by decide), below_grown HB.out HO.out hg (Nat.le_refl _) HB.out.size⟩
        rw [ht.out, List.map_append]; exact hown'
      case measure => simp [intOf]; omega
    · obtain rfl : k = fs.length := by omega
      clear hfds
      go_wp2
      go_ret2
      rw [List.take_length] at hown
      exact ⟨u6, fs.map Fd.V, by rw [hd]; rfl, .inl ⟨Hok.out, fs, l, HF.out, rfl⟩, by simpa using hfl, by rw [List.length_map, List.map_map]; exact hown, hbel⟩

end Go.Proofs.YtgecghfaoonelaaDoor
