/- Walk: which edge the reference can contract. -/
import Derived.Test.YtiklocamfgopbaaDoorFoQ33
namespace Go.Proofs.YtiklocamfgopbaaDoor
open Go.RowKit

theorem GL.join {g : List (List Int)} {L : List Int} (h : GL g L) {u v : Int} (hu : u ∈ L) : GL (joinG g u v) (lessL L v) :=
  h.less (joinG_length g u v) (joinG_mem h.rg (h.inn u hu).1 (h.inn u hu).2).1 v

set_option maxRecDepth 100000 in
set_option maxHeartbeats 4000000 in
theorem l20Edge_any (v lv : Value) (g : List (List Int)) (L : List Int) (h : GL g L) (w : World) (hg : Gr w v g) (hlv : Nums w 2 .i64 lv L) :
    Calls Tryd.prog 25 #[v, lv] w fun e w' => ∃ (a b : Int) (ok : Bool), e = .returned (.tuple #[.int .i64 a, .int .i64 b, .bool ok]) ∧ Below w.heap.size w w' ∧
      ((ok = false ∧ edgeOf g L = none) ∨ (ok = true ∧ edgeOf g L = some (a, b) ∧ a ∈ L ∧ b ∈ row g a.toNat ∧ a < b)) := by
  have H := Lib.hid h
  have hg0 := hg
  obtain ⟨u, rfl, hr⟩ := hg
  obtain ⟨gp, gc, rfl, _⟩ := hr.shape
  obtain ⟨W0, hW0⟩ : ∃ W0, W0 = w.alloc (.cells #[.slice gp g.length gc] 30) := ⟨_, rfl⟩
  have hb0 : Below w.heap.size w W0 := by rw [hW0]; exact below_alloc _ _
  have HB0 := Lib.hid hb0
  have HBG : Hid (Box W0 w.heap.size 30 (.slice gp g.length gc)) := Lib.hid (by rw [hW0]; exact Box.new _ _ _)
  have HG := Lib.hid (hg0.below hb0)
  have HRW := Lib.hid (hr.below hb0)
  have HL := Lib.hid (hlv.below hb0)
  have sz0 : W0.heap.size = w.heap.size + 1 := by rw [hW0, size_alloc]
  obtain ⟨lp, lc, rfl, _⟩ := id hlv
  clear hr hg0 hlv h hb0
  go_enter Tryd.func25, Tryd.ntmps25
  go_upto_region 1 with fail
  rw [← hW0]
  clear hW0
  go_wp2_with fail
  go_loopw [7] (fun i wr => ∃ k : Nat, k ≤ L.length ∧ i = .int .i64 k ∧ Below W0.heap.size W0 wr ∧ Hid (edgeOf g L = (L.drop k).findSome? (edgeF g L))) (fun i _ => L.length - (intOf i).toNat)
  case atStart => exact ⟨0, Nat.zero_le _, rfl, Below.refl _ _, Lib.hid rfl⟩
  case round =>
    obtain ⟨k, hk, rfl, hb, HE⟩ := hrel
    have HB := Lib.hid hb
    have hnn := HL.out.below hb
    clear hb
    by_cases hlt : k < L.length
    · obtain ⟨m, hm, hmn⟩ : ∃ m : Nat, L[k] = (m : Int) ∧ m < g.length := by
        have := H.out.inn _ (List.getElem_mem hlt)
        exact ⟨(L[k]).toNat, by omega, by omega⟩
      obtain ⟨lb, lo, rfl, hcl⟩ := hnn.get hlt
      rw [hm] at hcl
      have HMem := Lib.hid (show (m : Int) ∈ L by rw [← hm]; exact List.getElem_mem hlt)
      have HFi := Lib.hid (some_drop (f := edgeF g L) hlt)
      rw [hm] at HFi
      have HM := Lib.hid hm
      obtain ⟨r, hr0⟩ : ∃ r, r = row g m := ⟨_, rfl⟩
      have HR := Lib.hid hr0
      have hrl16 : r.length ≤ 16 := by rw [hr0]; exact H.out.rl m
      obtain ⟨b, o, rp, rc, rfl, hcell, hnums⟩ := HRW.out.get hmn
      change W0.cell? _ = some (.slice rp (row g m).length rc) at hcell
      change Nums W0 _ _ (.slice rp (row g m).length rc) (row g m) at hnums
      rw [← hr0] at hcell hnums
      have HCE := Lib.hid hcell
      have HNU := Lib.hid hnums
      clear hm hnn hr0 hcell hnums
      go_wp2_with fail
      go_loopw [9] (fun i wx => ∃ j : Nat, j ≤ r.length ∧ i = .int .i64 j ∧ Below W0.heap.size W0 wx ∧ Hid (edgeRow g L m = (r.drop j).find? (fun v => dec ((m : Int) < v) && dec (HardS (joinG g m v) (lessL L v))))) (fun i _ => r.length - (intOf i).toNat)
      case atStart => exact ⟨0, Nat.zero_le _, rfl, HB.out, Lib.hid (by rw [HR.out, edgeRow, Int.toNat_natCast]; rfl)⟩
      case round =>
        clear hcl HB
        obtain ⟨j, hj, rfl, hb, HEJ⟩ := hrel
        have HB := Lib.hid hb
        have hcg := hb.at (by omega) HBG.out.cell
        have hco := hb.at' HCE.out
        have hnr := HNU.out.below hb
        have hs0 := hb.size
        clear hb
        by_cases hltj : j < r.length
        · obtain ⟨y, hy, hyn⟩ : ∃ y : Nat, r[j] = (y : Int) ∧ y < g.length := by
            have := (H.out.rg m).1 _ (by rw [← HR.out]; exact List.getElem_mem hltj)
            exact ⟨(r[j]).toNat, by omega, by omega⟩
          have hym : Hid ((y : Int) ∈ row g m) := Lib.hid (by rw [← HR.out, ← hy]; exact List.getElem_mem hltj)
          obtain ⟨rb, ro, rfl, hci⟩ := hnr.get hltj
          rw [hy] at hci
          have HFj := Lib.hid (find_drop (p := fun v => dec ((m : Int) < v) && dec (HardS (joinG g m v) (lessL L v))) hltj)
          rw [hy] at HFj
          clear hy hnr
          by_cases hmy : (m : Int) < (y : Int)
          · have HMY := Lib.hid hmy
            have HGr := Lib.hid (HG.out.below HB.out)
            have HLw := Lib.hid (HL.out.below HB.out)
            have HGL := Lib.hid (H.out.join (u := (m : Int)) (v := (y : Int)) HMem.out)
            have T1 := Lib.hid H.out.n16
            have T2 := Lib.hid H.out.rg
            have T3 := Lib.hid (show (lessL L y).length ≤ 1000000000 by have := lessL_length L y; have := H.out.l16; omega)
            by_cases hh : HardS (joinG g m y) (lessL L y)
            · have HD := Lib.hid (dec_true hh)
              clear hh
              go_wp2_with (first
                | (go_at_call 56; refine (l20Hard_any _ _ (joinG g m y) (lessL L y) HGL.out _ HG4.out HN4.out).mono ?_; rintro e w5 ⟨he, hb5⟩; rw [HD.out] at he; subst he; have HB5 := Lib.hid (HB4.out.trans (hb5.mono HB4.out.size)); clear hb5)
                | (go_at_call 27; refine (l19Less_any _ L y _ (HLw.out.below HB3.out)).mono ?_; rintro e w4 ⟨r4, rfl, hown4, hb4⟩; have HN4 := Lib.hid (Nums.of_owns hown4 rfl T3.out); obtain ⟨r4p, r4c, rfl, _⟩ := id HN4.out; have HB4 := Lib.hid (HB3.out.trans (hb4.mono HB3.out.size)); have HG4 := Lib.hid (HG3.out.below hb4); clear hown4 hb4)
                | (go_at_call 26; refine (l20Join_any _ g m y m y rfl rfl hmn hyn T1.out T2.out _ HGr.out).mono ?_; rintro e w3 ⟨u3, rfl, hs3, _, hb3⟩; obtain ⟨p3, c3, rfl⟩ := hs3.shape; have HB3 := Lib.hid hb3; have HG3 := Lib.hid (hs3.gr (by rw [joinG_length]; have := T1.out; omega)); clear hs3 hb3))
              go_ret3
              have hrow : edgeRow g L m = some (y : Int) := by rw [HEJ.out, HFj.out, if_pos (by rw [HD.out, dec_true HMY.out]; rfl)]
              exact ⟨m, y, true, rfl, HB0.out.trans ((HB.out.trans (HB5.out.mono HB.out.size)).mono HB0.out.size), .inr ⟨rfl, by rw [HE.out, HFi.out, edgeF, hrow]; rfl, HMem.out, hym.out, HMY.out⟩⟩
            · have HD := Lib.hid (dec_false hh)
              clear hh
              go_wp2_with (first
                | (go_at_call 56; refine (l20Hard_any _ _ (joinG g m y) (lessL L y) HGL.out _ HG4.out HN4.out).mono ?_; rintro e w5 ⟨he, hb5⟩; rw [HD.out] at he; subst he; have HB5 := Lib.hid (HB4.out.trans (hb5.mono HB4.out.size)); clear hb5)
                | (go_at_call 27; refine (l19Less_any _ L y _ (HLw.out.below HB3.out)).mono ?_; rintro e w4 ⟨r4, rfl, hown4, hb4⟩; have HN4 := Lib.hid (Nums.of_owns hown4 rfl T3.out); obtain ⟨r4p, r4c, rfl, _⟩ := id HN4.out; have HB4 := Lib.hid (HB3.out.trans (hb4.mono HB3.out.size)); have HG4 := Lib.hid (HG3.out.below hb4); clear hown4 hb4)
                | (go_at_call 26; refine (l20Join_any _ g m y m y rfl rfl hmn hyn T1.out T2.out _ HGr.out).mono ?_; rintro e w3 ⟨u3, rfl, hs3, _, hb3⟩; obtain ⟨p3, c3, rfl⟩ := hs3.shape; have HB3 := Lib.hid hb3; have HG3 := Lib.hid (hs3.gr (by rw [joinG_length]; have := T1.out; omega)); clear hs3 hb3))
              go_roundw
              case rel => exact ⟨j + 1, by omega, by go_num, HB.out.trans (HB5.out.mono HB.out.size), Lib.hid (by rw [HEJ.out, HFj.out, if_neg (by rw [HD.out]; simp)])⟩
              case measure => simp [intOf]; omega
          · have HD := Lib.hid (dec_false hmy)
            have hmy' : ¬ m < y := by omega
            go_wp2_with fail
            go_roundw
            case rel => exact ⟨j + 1, by omega, by go_num, HB.out, Lib.hid (by rw [HEJ.out, HFj.out, if_neg (by rw [HD.out]; simp)])⟩
            case measure => simp [intOf]; omega
        · obtain rfl : j = r.length := by omega
          have hnone : Hid (edgeF g L m = none) := Lib.hid (by rw [edgeF, HEJ.out, find_stop (Nat.le_refl _)]; rfl)
          clear hnr
          go_wp2_with fail
          go_roundw
          case rel => exact ⟨k + 1, by omega, by go_num, HB.out, Lib.hid (by rw [HE.out, HFi.out, hnone.out]; rfl)⟩
          case measure => simp [intOf]; omega
    · obtain rfl : k = L.length := by omega
      clear hnn
      go_wp2_with fail
      go_ret3
      exact ⟨0, 0, false, rfl, HB0.out.trans (HB.out.mono HB0.out.size), .inl ⟨rfl, by rw [HE.out]; exact some_stop (Nat.le_refl _)⟩⟩

theorem l20Edge_yes (v lv : Value) (g : List (List Int)) (L : List Int) (h : GL g L) {a b : Int} (hx : edgeOf g L = some (a, b)) (w : World) (hg : Gr w v g) (hlv : Nums w 2 .i64 lv L) :
    Calls Tryd.prog 25 #[v, lv] w fun e w' => e = .returned (.tuple #[.int .i64 a, .int .i64 b, .bool true]) ∧ Below w.heap.size w w' ∧ a ∈ L ∧ b ∈ row g a.toNat ∧ a < b := by
  refine (l20Edge_any v lv g L h w hg hlv).mono ?_
  rintro e w' ⟨a', b', ok, rfl, hb, ⟨_, q⟩ | ⟨rfl, q, hm⟩⟩
  · rw [hx] at q; cases q
  · rw [hx] at q; cases q
    exact ⟨rfl, hb, hm⟩
theorem l20Edge_no (v lv : Value) (g : List (List Int)) (L : List Int) (h : GL g L) (hx : edgeOf g L = none) (w : World) (hg : Gr w v g) (hlv : Nums w 2 .i64 lv L) :
    Calls Tryd.prog 25 #[v, lv] w fun e w' => ∃ a b : Int, e = .returned (.tuple #[.int .i64 a, .int .i64 b, .bool false]) ∧ Below w.heap.size w w' := by
  refine (l20Edge_any v lv g L h w hg hlv).mono ?_
  rintro e w' ⟨a', b', ok, rfl, hb, ⟨rfl, _⟩ | ⟨_, q, _⟩⟩
  · exact ⟨a', b', rfl, hb⟩
  · rw [hx] at q; cases q

end Go.Proofs.YtiklocamfgopbaaDoor
