/- What 'PassesOk' of the reference returns. -/
import Derived.Test.YtiddlpgpbafdmaaDoorOkPlain
import Derived.Test.YtiddlpgpbafdmaaDoorFurnWalk
import Derived.Deep.QuietTactic
import Derived.BigQuiet
namespace Go.Proofs.YtiddlpgpbafdmaaDoor
open Go.RowKit
set_option linter.unusedVariables false
theorem range_all {ys : List (Int × Int)} {n j : Nat} (h : (List.range n).all (rangeAt ys) = true) (hj : j < n) : rangeAt ys j = true := okAt_range h hj
set_option maxRecDepth 100000 in
set_option maxHeartbeats 16000000 in
theorem specOk_loop (A : Option Addr) (n c : Nat) (xs : List (Int × Int)) (R : Nat) (p : Int) (A2 : Option Addr) (c2 : Nat) (ys : List (Int × Int)) (w : World) (hl : xs.length = n) (hr : RdP w w.heap.size A xs) (hn : n ≤ 1048576) (hl2 : ys.length = n) (hr2 : RdP w w.heap.size A2 ys) (hx : chargesOk xs = true) (hf : furnOk R p = true) :
    Calls Tryd.prog 43 #[.slice A n c, .agg #[.int .i64 R, .int .i64 p], .slice A2 n c2] w fun e w' => e = .returned (.bool (timesOk R p xs ys)) ∧ Below w.heap.size w w' := by
  have HX := Lib.hid hx
  have HL := Lib.hid hl
  have HL2 := Lib.hid hl2
  obtain ⟨f1, f2, f3, f4⟩ := furnOk_iff.1 hf
  clear hl hl2
  go_enter Tryd.func43, Tryd.ntmps43
  go_wp2_with (fail)
  refine (specCharges_any _ _ _ xs _ HL.out (hr.up ((Below.refl _ _).alloc (Nat.le_refl _) _) (by simp)) (by omega)).mono ?_
  rintro e w' ⟨rfl, rfl⟩
  go_wp2_with (fail)
  refine (specFurn_any _ _ _).mono ?_
  rintro e w2 ⟨rfl, hb2⟩
  have t2 := below_boxed hb2
  have hz2' : w.heap.size < w2.heap.size := by have := hb2.size; simp at this; omega
  have q1 : w2.cell? ⟨w.heap.size, 0, none⟩ = some (.int .i64 R) := by rw [hb2.cell (by simp)]; go_simp
  have q2 : w2.cell? ⟨w.heap.size, 1, none⟩ = some (.int .i64 p) := by rw [hb2.cell (by simp)]; go_simp
  have hr' := hr.up t2 (Nat.le_refl _)
  have hr2' := hr2.up t2 (Nat.le_refl _)
  clear hb2
  go_wp2_with (fail)
  clear hx hf hr hr2
  go_loop [7] (fun i => ∃ k : Nat, k ≤ n ∧ i = .int .i64 k ∧ (List.range k).all (rangeAt ys) = true) (fun i => n - (intOf i).toNat)
  case atStart => exact ⟨0, Nat.zero_le _, rfl, rfl⟩
  case round =>
    obtain ⟨k, hk, rfl, hall⟩ := hrel
    have HA := Lib.hid hall
    clear hall
    by_cases hlt : k < n
    · obtain ⟨⟨y1, y2⟩, hyk⟩ : ∃ q, ys[k]? = some q := ⟨_, List.getElem?_eq_getElem (by have := HL2.out; omega)⟩
      obtain ⟨b', off', rfl, hbB', hd1, hd2⟩ := hr2' k y1 y2 hyk
      have HYK := Lib.hid hyk
      have hkx : k < xs.length := by have := HL.out; omega
      clear hyk hr' hr2'
      cases i1 : inB y1 0 9999
      · go_wp2_with (go_at_call 57; refine (in_any _ _ _ _).mono ?_; rintro e w' ⟨rfl, rfl⟩)
        go_ret
        exact ⟨ret_bool (timesOk_bad hkx (range_bad HYK.out (.inl i1))).symm, t2⟩
      cases i2 : inB y2 0 9999
      · go_wp2_with (go_at_call 57; refine (in_any _ _ _ _).mono ?_; rintro e w' ⟨rfl, rfl⟩)
        go_ret
        exact ⟨ret_bool (timesOk_bad hkx (range_bad HYK.out (.inr i2))).symm, t2⟩
      go_wp2_with (go_at_call 57; refine (in_any _ _ _ _).mono ?_; rintro e w' ⟨rfl, rfl⟩)
      go_round
      case rel => exact ⟨k + 1, by omega, by go_num, all_range_succ HA.out (by rw [rangeAt_eq HYK.out, i1, i2]; rfl)⟩
      case measure => simp [intOf]; omega
    · have hkn : k = n := by omega
      subst hkn
      clear hlt hk
      go_wp2
      go_loopw [8] (fun i wr => ∃ j : Nat, j ≤ k ∧ i = .int .i64 j ∧ (List.range j).all (okAt R p xs ys) = true ∧ Below w.heap.size w wr ∧ Below w2.heap.size w2 wr ∧ w.heap.size < wr.heap.size ∧ wr.cell? ⟨w.heap.size, 0, none⟩ = some (.int .i64 R) ∧ wr.cell? ⟨w.heap.size, 1, none⟩ = some (.int .i64 p)) (fun i _ => k - (intOf i).toNat)
      case atStart => exact ⟨0, Nat.zero_le _, rfl, rfl, t2, Below.refl _ _, hz2', q1, q2⟩
      case round =>
        obtain ⟨j, hj, rfl, hall, hbel, hbel2, hws, c1, c2'⟩ := hrel
        clear q1 q2 t2
        have hsz := hbel.size
        have hws1 : w.heap.size < wr.heap.size + 1 := by omega
        have HB := Lib.hid hall
        clear hall
        by_cases hlt : j < k
        · obtain ⟨⟨x1, x2⟩, hxk⟩ : ∃ q, xs[j]? = some q := ⟨_, List.getElem?_eq_getElem (by have := HL.out; omega)⟩
          obtain ⟨⟨y1, y2⟩, hyk⟩ : ∃ q, ys[j]? = some q := ⟨_, List.getElem?_eq_getElem (by have := HL2.out; omega)⟩
          obtain ⟨b, off, rfl, hbB, hc1, hc2⟩ := hr' j x1 x2 hxk
          obtain ⟨b', off', rfl, hbB', hd1, hd2⟩ := hr2' j y1 y2 hyk
          obtain ⟨x0, x1', x2', x3⟩ := chargesOk_get HX.out hxk
          have HRG : Hid (rangeAt ys j = true) := Lib.hid (range_all HA.out hlt)
          obtain ⟨y1a, y1b, y2a, y2b⟩ := rangeAt_bounds HRG.out hyk
          have HXK := Lib.hid hxk
          have HYK := Lib.hid hyk
          have hs2 := hbel2.size
          have hbw : b < wr.heap.size := by omega
          have hbw' : b' < wr.heap.size := by omega
          rw [← hbel2.cell (by show b < _; omega)] at hc1 hc2
          rw [← hbel2.cell (by show b' < _; omega)] at hd1 hd2
          have hkx : j < xs.length := by have := HL.out; omega
          clear hxk hyk
          have W1 : Hid (IntKind.i64.wrap (y1 + x2) = y1 + x2) := Lib.hid (IntWalk.i64_in _ (by omega))
          by_cases s1 : y1 < x1
          · skip
            clear hr' hr2'
            have V1 := W1.out
            go_wp2_with (go_at_call 57; refine (in_any _ _ _ _).mono ?_; rintro e w' ⟨rfl, rfl⟩)
            go_quiet (fail)
            clear V1
            go_wp2
            go_ret
            exact ⟨ret_bool (timesOk_bad hkx (stay_bad HXK.out HYK.out (by omega))).symm, (by repeat' (first | exact Below.refl _ _ | assumption | refine Below.alloc ?_ (by first | omega | (simp; done) | (simp; omega)) _ | refine Below.setCell ?_ (by first | omega | (simp; done) | (simp; omega)) _ | refine Below.drew ?_ | refine below_drawn ?_ _))⟩
          have e1 : decide (y1 < x1) = false := by simp; omega
          by_cases s2 : y2 < y1 + x2
          · skip
            clear hr' hr2'
            have V1 := W1.out
            go_wp2_with (go_at_call 57; refine (in_any _ _ _ _).mono ?_; rintro e w' ⟨rfl, rfl⟩)
            go_quiet (fail)
            clear V1
            go_wp2
            go_ret
            exact ⟨ret_bool (timesOk_bad hkx (stay_bad HXK.out HYK.out (by omega))).symm, (by repeat' (first | exact Below.refl _ _ | assumption | refine Below.alloc ?_ (by first | omega | (simp; done) | (simp; omega)) _ | refine Below.setCell ?_ (by first | omega | (simp; done) | (simp; omega)) _ | refine Below.drew ?_ | refine below_drawn ?_ _))⟩
          have e2 : decide (y2 < y1 + x2) = false := by simp; omega
          rcases j with _ | m
          · clear hr' hr2'
            simp only [Nat.zero_mul, Nat.add_zero] at hc1 hc2 hd1 hd2
            simp only [show ((0 : Nat) : Int) = 0 from rfl]
            have V1 := W1.out
            have hR0 : (0 : Int) < (R : Int) := by omega
            have hR1 : decide ((R : Int) ≤ 0) = false := by simp; omega
            have hR2 : decide (R = 0) = false := by simp; omega
            go_wp2_with (go_at_call 57; refine (in_any _ _ _ _).mono ?_; rintro e w' ⟨rfl, rfl⟩)
            go_quiet (fail)
            clear V1
            go_wp2
            go_quiet (fail)
            go_wp2
            go_roundw
            case rel => exact ⟨1, by omega, by go_num, all_range_succ (k := 0) rfl (okAt_yes0 HXK.out HYK.out HRG.out (by omega) (by omega) (by omega)), (by repeat' (first | exact Below.refl _ _ | assumption | refine Below.alloc ?_ (by first | omega | (simp; done) | (simp; omega)) _ | refine Below.setCell ?_ (by first | omega | (simp; done) | (simp; omega)) _ | refine Below.drew ?_ | refine below_drawn ?_ _)), (by repeat' (first | exact Below.refl _ _ | assumption | refine Below.alloc ?_ (by first | omega | (simp; done) | (simp; omega)) _ | refine Below.setCell ?_ (by first | omega | (simp; done) | (simp; omega)) _ | refine Below.drew ?_ | refine below_drawn ?_ _)), by simp; omega, by go_simp, by go_simp⟩
            case measure => simp [intOf]; omega
          obtain ⟨⟨l1, l2⟩, hlk⟩ : ∃ q, ys[m]? = some q := ⟨_, List.getElem?_eq_getElem (by have := HL2.out; omega)⟩
          obtain ⟨l1a, l1b, l2a, l2b⟩ := rangeAt_bounds (range_all HA.out (show m < k by omega)) hlk
          obtain ⟨b3, off3, e3, hb3, he1, he2⟩ := hr2' m l1 l2 hlk
          injection e3 with e3
          injection e3 with e3 e4 _
          subst e3 e4
          rw [← hbel2.cell (by show b' < _; omega)] at he1 he2
          have HLK := Lib.hid hlk
          clear hlk hb3
          have W2 : Hid (IntKind.i64.wrap (l2 + p) = l2 + p) := Lib.hid (IntWalk.i64_in _ (by omega))
          have W3 : Hid (IntKind.i64.wrap ((m : Int) + 1 - 1) = (m : Int)) := Lib.hid (by rw [IntWalk.i64_in _ (by omega)]; omega)
          by_cases s4 : y1 < l1
          · skip
            clear hr' hr2'
            have V1 := W1.out
            have V2 := W2.out
            go_wp2_with (go_at_call 57; refine (in_any _ _ _ _).mono ?_; rintro e w' ⟨rfl, rfl⟩)
            go_quiet (fail)
            clear V1 V2
            go_wp2
            go_ret
            exact ⟨ret_bool (timesOk_bad hkx (order_bad HLK.out HYK.out (by omega))).symm, (by repeat' (first | exact Below.refl _ _ | assumption | refine Below.alloc ?_ (by first | omega | (simp; done) | (simp; omega)) _ | refine Below.setCell ?_ (by first | omega | (simp; done) | (simp; omega)) _ | refine Below.drew ?_ | refine below_drawn ?_ _))⟩
          have e4 : decide (y1 < l1) = false := by simp; omega
          by_cases s5 : y2 < l2 + p
          · skip
            clear hr' hr2'
            have V1 := W1.out
            have V2 := W2.out
            go_wp2_with (go_at_call 57; refine (in_any _ _ _ _).mono ?_; rintro e w' ⟨rfl, rfl⟩)
            go_quiet (fail)
            clear V1 V2
            go_wp2
            go_ret
            exact ⟨ret_bool (timesOk_bad hkx (order_bad HLK.out HYK.out (by omega))).symm, (by repeat' (first | exact Below.refl _ _ | assumption | refine Below.alloc ?_ (by first | omega | (simp; done) | (simp; omega)) _ | refine Below.setCell ?_ (by first | omega | (simp; done) | (simp; omega)) _ | refine Below.drew ?_ | refine below_drawn ?_ _))⟩
          have e5 : decide (y2 < l2 + p) = false := by simp; omega
          by_cases hR : (m : Int) + 1 < (R : Int)
          · clear hr' hr2'
            have hd : decide ((R : Int) ≤ (m : Int) + 1) = false := by simp; omega
            have V1 := W1.out
            have V2 := W2.out
            go_wp2_with (go_at_call 57; refine (in_any _ _ _ _).mono ?_; rintro e w' ⟨rfl, rfl⟩)
            go_quiet (fail)
            clear V1 V2
            go_wp2
            go_quiet (fail)
            go_wp2
            go_roundw
            case rel => exact ⟨m + 2, by omega, by go_num, all_range_succ (k := m + 1) HB.out (okAt_yes HXK.out HYK.out HLK.out HRG.out (by omega) (by omega) (by omega) (by omega) (roomAt_few (by omega))), (by repeat' (first | exact Below.refl _ _ | assumption | refine Below.alloc ?_ (by first | omega | (simp; done) | (simp; omega)) _ | refine Below.setCell ?_ (by first | omega | (simp; done) | (simp; omega)) _ | refine Below.drew ?_ | refine below_drawn ?_ _)), (by repeat' (first | exact Below.refl _ _ | assumption | refine Below.alloc ?_ (by first | omega | (simp; done) | (simp; omega)) _ | refine Below.setCell ?_ (by first | omega | (simp; done) | (simp; omega)) _ | refine Below.drew ?_ | refine below_drawn ?_ _)), by simp; omega, by go_simp, by go_simp⟩
            case measure => simp [intOf]; omega
          obtain ⟨⟨q1, q2⟩, hqk⟩ : ∃ q, ys[m + 1 - R]? = some q := ⟨_, List.getElem?_eq_getElem (by have := HL2.out; omega)⟩
          obtain ⟨b3, off3, e3, hb3, hg1, hg2⟩ := hr2' (m + 1 - R) q1 q2 hqk
          injection e3 with e3
          injection e3 with e3 e4 _
          subst e3 e4
          rw [← hbel2.cell (by show b' < _; omega)] at hg1 hg2
          have HQK := Lib.hid hqk
          clear hqk hb3 hr' hr2'
          have hd : decide ((R : Int) ≤ (m : Int) + 1) = true := by simp; omega
          have hi1 : (0 : Int) ≤ (m : Int) + 1 - (R : Int) := by omega
          have hi2 : (m : Int) + 1 - (R : Int) < (k : Int) := by omega
          have W4 : Hid (IntKind.i64.wrap ((m : Int) + 1 - (R : Int)) = (m : Int) + 1 - (R : Int)) := Lib.hid (IntWalk.i64_in _ (by omega))
          have W5 : Hid (((m : Int) + 1 - (R : Int)).toNat = m + 1 - R) := Lib.hid (by omega)
          by_cases s7 : y1 < q2
          · have V1 := W1.out
            have V2 := W2.out
            go_wp2_with (go_at_call 57; refine (in_any _ _ _ _).mono ?_; rintro e w' ⟨rfl, rfl⟩)
            go_quiet (fail)
            clear V1 V2
            go_wp2
            have V4 := W4.out
            have V5 := W5.out
            go_quiet (fail)
            clear V4 V5
            go_wp2
            go_ret
            exact ⟨ret_bool (timesOk_bad hkx (room_bad (by omega) HQK.out HYK.out s7)).symm, (by repeat' (first | exact Below.refl _ _ | assumption | refine Below.alloc ?_ (by first | omega | (simp; done) | (simp; omega)) _ | refine Below.setCell ?_ (by first | omega | (simp; done) | (simp; omega)) _ | refine Below.drew ?_ | refine below_drawn ?_ _))⟩
          · have V1 := W1.out
            have V2 := W2.out
            go_wp2_with (go_at_call 57; refine (in_any _ _ _ _).mono ?_; rintro e w' ⟨rfl, rfl⟩)
            go_quiet (fail)
            clear V1 V2
            go_wp2
            have V4 := W4.out
            have V5 := W5.out
            go_quiet (fail)
            clear V4 V5
            go_wp2
            go_roundw
            case rel => exact ⟨m + 2, by omega, by go_num, all_range_succ (k := m + 1) HB.out (okAt_yes HXK.out HYK.out HLK.out HRG.out (by omega) (by omega) (by omega) (by omega) (by rw [roomAt_eq (by omega) HQK.out HYK.out]; simp; omega)), (by repeat' (first | exact Below.refl _ _ | assumption | refine Below.alloc ?_ (by first | omega | (simp; done) | (simp; omega)) _ | refine Below.setCell ?_ (by first | omega | (simp; done) | (simp; omega)) _ | refine Below.drew ?_ | refine below_drawn ?_ _)), (by repeat' (first | exact Below.refl _ _ | assumption | refine Below.alloc ?_ (by first | omega | (simp; done) | (simp; omega)) _ | refine Below.setCell ?_ (by first | omega | (simp; done) | (simp; omega)) _ | refine Below.drew ?_ | refine below_drawn ?_ _)), by simp; omega, by go_simp, by go_simp⟩
            case measure => simp [intOf]; omega
        · go_wp2
          go_ret
          have : j = k := by omega
          subst this
          exact ⟨ret_bool (timesOk_mk (HL2.out.trans HL.out.symm) (by rw [HL.out]; exact HB.out)).symm, hbel⟩
end Go.Proofs.YtiddlpgpbafdmaaDoor
