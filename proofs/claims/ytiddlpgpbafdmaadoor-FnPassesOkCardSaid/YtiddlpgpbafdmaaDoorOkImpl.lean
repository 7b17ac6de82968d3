/- What 'PassesOk' of the program returns. -/
import Derived.Test.YtiddlpgpbafdmaaDoorOkPlain
import Derived.Test.YtiddlpgpbafdmaaDoorFurnWalk
import Derived.Deep.QuietTactic
import Derived.BigQuiet
namespace Go.Proofs.YtiddlpgpbafdmaaDoor
open Go.RowKit
set_option linter.unusedVariables false
set_option maxRecDepth 100000 in
set_option maxHeartbeats 8000000 in
theorem implOk_loop (A : Option Addr) (n c : Nat) (xs : List (Int × Int)) (R : Nat) (p : Int) (A2 : Option Addr) (c2 : Nat) (ys : List (Int × Int)) (w : World) (hl : xs.length = n) (hr : RdP w w.heap.size A xs) (hn : n ≤ 1048576) (hl2 : ys.length = n) (hr2 : RdP w w.heap.size A2 ys) (hx : chargesOk xs = true) (hf : furnOk R p = true) :
    Calls Tryd.prog 41 #[.slice A n c, .agg #[.int .i64 R, .int .i64 p], .slice A2 n c2] w fun e w' => e = .returned (.bool (timesOk R p xs ys)) ∧ Below w.heap.size w w' := by
  have HX := Lib.hid hx
  have HL := Lib.hid hl
  have HL2 := Lib.hid hl2
  obtain ⟨f1, f2, f3, f4⟩ := furnOk_iff.1 hf
  clear hl hl2
  go_enter Tryd.func41, Tryd.ntmps41
  go_wp2_with (fail)
  refine (implCharges_any _ _ _ xs _ HL.out (hr.up ((Below.refl _ _).alloc (Nat.le_refl _) _) (by simp)) (by omega)).mono ?_
  rintro e w1 ⟨rfl, hb1⟩
  have t1 := below_boxed hb1
  obtain ⟨hc1, hf1⟩ := bcell hb1
  have hz1' : w.heap.size < w1.heap.size := by have := hb1.size; simp at this; omega
  go_wp2_with (fail)
  refine (implFurn_any _ _ _).mono ?_
  rintro e w2 ⟨rfl, hb2⟩
  have t2 := below_next t1 hb2
  have hz2' : w.heap.size < w2.heap.size := by have := hb2.size; omega
  have q1 : w2.cell? ⟨w.heap.size, 0, none⟩ = some (.int .i64 R) := by rw [hb2.cell (by exact hz1'), hc1 _ _ (by simp)]; go_simp
  have q2 : w2.cell? ⟨w.heap.size, 1, none⟩ = some (.int .i64 p) := by rw [hb2.cell (by exact hz1'), hc1 _ _ (by simp)]; go_simp
  clear hc1 hf1 hb1 t1 hb2 hz1'
  go_wp2_with (fail)
  clear hx hf
  go_loopw [28] (fun i wr => ∃ k : Nat, k ≤ n ∧ i = .int .i64 k ∧ (List.range k).all (okAt R p xs ys) = true ∧ Below w.heap.size w wr ∧ w.heap.size < wr.heap.size ∧ wr.cell? ⟨w.heap.size, 0, none⟩ = some (.int .i64 R) ∧ wr.cell? ⟨w.heap.size, 1, none⟩ = some (.int .i64 p)) (fun i _ => n - (intOf i).toNat)
  case atStart => exact ⟨0, Nat.zero_le _, rfl, rfl, t2, hz2', q1, q2⟩
  case round =>
    obtain ⟨k, hk, rfl, hall, hbel, hws, c1, c2'⟩ := hrel
    clear q1 q2 t2 hz2'
    have hsz := hbel.size
    have hws1 : w.heap.size < wr.heap.size + 1 := by omega
    have hws2 : w.heap.size < wr.heap.size + 2 := by omega
    have hws3 : w.heap.size < wr.heap.size + 1 + 1 := by omega
    have HA := Lib.hid hall
    clear hall
    by_cases hlt : k < n
    · obtain ⟨⟨x1, x2⟩, hxk⟩ : ∃ q, xs[k]? = some q := ⟨_, List.getElem?_eq_getElem (by have := HL.out; omega)⟩
      obtain ⟨⟨y1, y2⟩, hyk⟩ : ∃ q, ys[k]? = some q := ⟨_, List.getElem?_eq_getElem (by have := HL2.out; omega)⟩
      obtain ⟨b, off, rfl, hbB, hc1, hc2⟩ := hr k x1 x2 hxk
      obtain ⟨b', off', rfl, hbB', hd1, hd2⟩ := hr2 k y1 y2 hyk
      obtain ⟨x0, x1', x2', x3⟩ := chargesOk_get HX.out hxk
      have HXK := Lib.hid hxk
      have HYK := Lib.hid hyk
      have hbw : b < wr.heap.size := by omega
      have hbw' : b' < wr.heap.size := by omega
      have hbw1 : b' < wr.heap.size + 1 := by omega
      have hbw2 : b' < wr.heap.size + 2 := by omega
      have hbw3 : b' < wr.heap.size + 1 + 1 := by omega
      rw [← hbel.cell (by exact hbB)] at hc1 hc2
      rw [← hbel.cell (by exact hbB')] at hd1 hd2
      have hkx : k < xs.length := by have := HL.out; omega
      clear hxk hyk
      cases i1 : inB y1 0 9999
      · clear hr hr2
        go_wp2_with (go_at_call 56; refine (within_any _ _ _ _).mono ?_; rintro e w' ⟨rfl, rfl⟩)
        go_ret
        exact ⟨ret_bool (timesOk_bad hkx (range_bad HYK.out (.inl i1))).symm, (by repeat' (first | exact Below.refl _ _ | assumption | refine Below.alloc ?_ (by first | omega | (simp; done) | (simp; omega)) _ | refine Below.setCell ?_ (by first | omega | (simp; done) | (simp; omega)) _ | refine Below.drew ?_ | refine below_drawn ?_ _))⟩
      cases i2 : inB y2 0 9999
      · clear hr hr2
        go_wp2_with (go_at_call 56; refine (within_any _ _ _ _).mono ?_; rintro e w' ⟨rfl, rfl⟩)
        go_ret
        exact ⟨ret_bool (timesOk_bad hkx (range_bad HYK.out (.inr i2))).symm, (by repeat' (first | exact Below.refl _ _ | assumption | refine Below.alloc ?_ (by first | omega | (simp; done) | (simp; omega)) _ | refine Below.setCell ?_ (by first | omega | (simp; done) | (simp; omega)) _ | refine Below.drew ?_ | refine below_drawn ?_ _))⟩
      obtain ⟨y1a, y1b⟩ := inB_iff.1 i1
      obtain ⟨y2a, y2b⟩ := inB_iff.1 i2
      have HRG : Hid (rangeAt ys k = true) := Lib.hid (by rw [rangeAt_eq HYK.out, i1, i2]; rfl)
      by_cases s1 : y1 < x1
      · clear hr hr2
        go_wp2_with (go_at_call 56; refine (within_any _ _ _ _).mono ?_; rintro e w' ⟨rfl, rfl⟩)
        go_ret
        exact ⟨ret_bool (timesOk_bad hkx (stay_bad HXK.out HYK.out (by omega))).symm, (by repeat' (first | exact Below.refl _ _ | assumption | refine Below.alloc ?_ (by first | omega | (simp; done) | (simp; omega)) _ | refine Below.setCell ?_ (by first | omega | (simp; done) | (simp; omega)) _ | refine Below.drew ?_ | refine below_drawn ?_ _))⟩
      by_cases s2 : y2 < y1
      · clear hr hr2
        go_wp2_with (go_at_call 56; refine (within_any _ _ _ _).mono ?_; rintro e w' ⟨rfl, rfl⟩)
        go_ret
        exact ⟨ret_bool (timesOk_bad hkx (stay_bad HXK.out HYK.out (by omega))).symm, (by repeat' (first | exact Below.refl _ _ | assumption | refine Below.alloc ?_ (by first | omega | (simp; done) | (simp; omega)) _ | refine Below.setCell ?_ (by first | omega | (simp; done) | (simp; omega)) _ | refine Below.drew ?_ | refine below_drawn ?_ _))⟩
      by_cases s3 : y2 - y1 < x2
      · clear hr hr2
        go_wp2_with (go_at_call 56; refine (within_any _ _ _ _).mono ?_; rintro e w' ⟨rfl, rfl⟩)
        go_ret
        exact ⟨ret_bool (timesOk_bad hkx (stay_bad HXK.out HYK.out (by omega))).symm, (by repeat' (first | exact Below.refl _ _ | assumption | refine Below.alloc ?_ (by first | omega | (simp; done) | (simp; omega)) _ | refine Below.setCell ?_ (by first | omega | (simp; done) | (simp; omega)) _ | refine Below.drew ?_ | refine below_drawn ?_ _))⟩
      rcases k with _ | m
      · clear hr hr2
        simp only [Nat.zero_mul, Nat.add_zero] at hc1 hc2 hd1 hd2
        simp only [show ((0 : Nat) : Int) = 0 from rfl]
        go_wp2_with (go_at_call 56; refine (within_any _ _ _ _).mono ?_; rintro e w' ⟨rfl, rfl⟩)
        go_roundw
        case rel => exact ⟨1, by omega, by go_num, all_range_succ (k := 0) rfl (okAt_yes0 HXK.out HYK.out HRG.out (by omega) (by omega) (by omega)), (by repeat' (first | exact Below.refl _ _ | assumption | refine Below.alloc ?_ (by first | omega | (simp; done) | (simp; omega)) _ | refine Below.setCell ?_ (by first | omega | (simp; done) | (simp; omega)) _ | refine Below.drew ?_ | refine below_drawn ?_ _)), by simp; omega, by go_simp, by go_simp⟩
        case measure => simp [intOf]; omega
      obtain ⟨⟨l1, l2⟩, hlk⟩ : ∃ q, ys[m]? = some q := ⟨_, List.getElem?_eq_getElem (by have := HL2.out; omega)⟩
      obtain ⟨l1a, l1b, l2a, l2b⟩ := okAt_bounds (okAt_range HA.out (show m < m + 1 by omega)) hlk
      obtain ⟨b3, off3, e3, hb3, he1, he2⟩ := hr2 m l1 l2 hlk
      injection e3 with e3
      injection e3 with e3 e4 _
      subst e3 e4
      rw [← hbel.cell (by exact hb3)] at he1 he2
      have HLK := Lib.hid hlk
      clear hlk hb3
      by_cases s4 : y1 < l1
      · clear hr hr2
        go_wp2_with (go_at_call 56; refine (within_any _ _ _ _).mono ?_; rintro e w' ⟨rfl, rfl⟩)
        go_ret
        exact ⟨ret_bool (timesOk_bad hkx (order_bad HLK.out HYK.out (by omega))).symm, (by repeat' (first | exact Below.refl _ _ | assumption | refine Below.alloc ?_ (by first | omega | (simp; done) | (simp; omega)) _ | refine Below.setCell ?_ (by first | omega | (simp; done) | (simp; omega)) _ | refine Below.drew ?_ | refine below_drawn ?_ _))⟩
      by_cases s5 : y2 < l2
      · clear hr hr2
        go_wp2_with (go_at_call 56; refine (within_any _ _ _ _).mono ?_; rintro e w' ⟨rfl, rfl⟩)
        go_ret
        exact ⟨ret_bool (timesOk_bad hkx (order_bad HLK.out HYK.out (by omega))).symm, (by repeat' (first | exact Below.refl _ _ | assumption | refine Below.alloc ?_ (by first | omega | (simp; done) | (simp; omega)) _ | refine Below.setCell ?_ (by first | omega | (simp; done) | (simp; omega)) _ | refine Below.drew ?_ | refine below_drawn ?_ _))⟩
      by_cases s6 : y2 - l2 < p
      · clear hr hr2
        go_wp2_with (go_at_call 56; refine (within_any _ _ _ _).mono ?_; rintro e w' ⟨rfl, rfl⟩)
        go_ret
        exact ⟨ret_bool (timesOk_bad hkx (order_bad HLK.out HYK.out (by omega))).symm, (by repeat' (first | exact Below.refl _ _ | assumption | refine Below.alloc ?_ (by first | omega | (simp; done) | (simp; omega)) _ | refine Below.setCell ?_ (by first | omega | (simp; done) | (simp; omega)) _ | refine Below.drew ?_ | refine below_drawn ?_ _))⟩
      by_cases hR : (m : Int) + 1 < (R : Int)
      · clear hr hr2
        have hd : decide ((R : Int) ≤ (m : Int) + 1) = false := by simp; omega
        go_wp2_with (go_at_call 56; refine (within_any _ _ _ _).mono ?_; rintro e w' ⟨rfl, rfl⟩)
        go_quiet (fail)
        go_wp2
        go_roundw
        case rel => exact ⟨m + 2, by omega, by go_num, all_range_succ (k := m + 1) HA.out (okAt_yes HXK.out HYK.out HLK.out HRG.out (by omega) (by omega) (by omega) (by omega) (roomAt_few (by omega))), (by repeat' (first | exact Below.refl _ _ | assumption | refine Below.alloc ?_ (by first | omega | (simp; done) | (simp; omega)) _ | refine Below.setCell ?_ (by first | omega | (simp; done) | (simp; omega)) _ | refine Below.drew ?_ | refine below_drawn ?_ _)), by simp; omega, by go_simp, by go_simp⟩
        case measure => simp [intOf]; omega
      obtain ⟨⟨q1, q2⟩, hqk⟩ : ∃ q, ys[m + 1 - R]? = some q := ⟨_, List.getElem?_eq_getElem (by have := HL2.out; omega)⟩
      obtain ⟨b3, off3, e3, hb3, hg1, hg2⟩ := hr2 (m + 1 - R) q1 q2 hqk
      injection e3 with e3
      injection e3 with e3 e4 _
      subst e3 e4
      rw [← hbel.cell (by exact hb3)] at hg1 hg2
      have HQK := Lib.hid hqk
      clear hqk hb3 hr hr2
      have hd : decide ((R : Int) ≤ (m : Int) + 1) = true := by simp; omega
      have hi1 : (0 : Int) ≤ (m : Int) + 1 - (R : Int) := by omega
      have hi2 : (m : Int) + 1 - (R : Int) < (n : Int) := by omega
      have W1 : IntKind.i64.wrap ((m : Int) + 1 - (R : Int)) = (m : Int) + 1 - (R : Int) := IntWalk.i64_in _ (by omega)
      have W2 : ((m : Int) + 1 - (R : Int)).toNat = m + 1 - R := by omega
      by_cases s7 : y1 < q2
      · go_wp2_with (go_at_call 56; refine (within_any _ _ _ _).mono ?_; rintro e w' ⟨rfl, rfl⟩)
        go_quiet (fail)
        clear W1 W2
        go_wp2
        go_ret
        exact ⟨ret_bool (timesOk_bad hkx (room_bad (by omega) HQK.out HYK.out s7)).symm, (by repeat' (first | exact Below.refl _ _ | assumption | refine Below.alloc ?_ (by first | omega | (simp; done) | (simp; omega)) _ | refine Below.setCell ?_ (by first | omega | (simp; done) | (simp; omega)) _ | refine Below.drew ?_ | refine below_drawn ?_ _))⟩
      · go_wp2_with (go_at_call 56; refine (within_any _ _ _ _).mono ?_; rintro e w' ⟨rfl, rfl⟩)
        go_quiet (fail)
        clear W1 W2
        go_wp2
        go_roundw
        case rel => exact ⟨m + 2, by omega, by go_num, all_range_succ (k := m + 1) HA.out (okAt_yes HXK.out HYK.out HLK.out HRG.out (by omega) (by omega) (by omega) (by omega) (by rw [roomAt_eq (by omega) HQK.out HYK.out]; simp; omega)), (by repeat' (first | exact Below.refl _ _ | assumption | refine Below.alloc ?_ (by first | omega | (simp; done) | (simp; omega)) _ | refine Below.setCell ?_ (by first | omega | (simp; done) | (simp; omega)) _ | refine Below.drew ?_ | refine below_drawn ?_ _)), by simp; omega, by go_simp, by go_simp⟩
        case measure => simp [intOf]; omega
    · go_wp2
      go_ret
      have : k = n := by omega
      subst this
      exact ⟨ret_bool (timesOk_mk (HL2.out.trans HL.out.symm) (by rw [HL.out]; exact HA.out)).symm, hbel⟩
end Go.Proofs.YtiddlpgpbafdmaaDoor
