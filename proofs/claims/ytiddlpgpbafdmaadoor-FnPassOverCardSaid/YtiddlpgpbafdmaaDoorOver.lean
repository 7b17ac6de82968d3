/- 'PassOver' and 'PassInside': the plain words, and the walks of both functions of the program and of the reference. -/
import Derived.Test.YtiddlpgpbafdmaaDoorOverPlain
import Derived.Test.YtiddlpgpbafdmaaDoorOkAny
namespace Go.Proofs.YtiddlpgpbafdmaaDoor
open Go.RowKit
set_option linter.unusedVariables false
set_option maxRecDepth 100000 in
set_option maxHeartbeats 4000000 in
theorem implOver_any (A : Option Addr) (n c : Nat) (xs : List (Int × Int)) (r p : Int) (A2 : Option Addr) (n2 c2 : Nat) (ys : List (Int × Int)) (w : World) (hl : xs.length = n) (hr : RdP w w.heap.size A xs) (hn : n ≤ 1048576) (hl2 : ys.length = n2) (hr2 : RdP w w.heap.size A2 ys) (hn2 : n2 ≤ 1048576) :
    Calls Tryd.prog 45 #[.slice A n c, .agg #[.int .i64 r, .int .i64 p], .slice A2 n2 c2] w fun e w' => e = .returned (.int .i64 (passOver xs r p ys)) ∧ Below w.heap.size w w' := by
  have HL := Lib.hid hl
  have HL2 := Lib.hid hl2
  clear hl hl2
  cases h1 : passesOk xs r p ys
  · go_enter Tryd.func45, Tryd.ntmps45
    go_wp2_with (fail)
    refine (implOk_any _ _ _ xs r p _ _ _ ys _ HL.out (hr.up ((Below.refl _ _).alloc (Nat.le_refl _) _) (by simp)) (by omega) HL2.out (hr2.up ((Below.refl _ _).alloc (Nat.le_refl _) _) (by simp)) (by omega)).mono ?_
    rintro e w1 ⟨rfl, hb1⟩
    have t1 := below_boxed hb1
    go_wp2
    go_ret
    exact ⟨ret_int (passOver_no h1).symm, t1⟩
  · have H1 := Lib.hid h1
    obtain ⟨h8, hle, hf⟩ := passesOk_facts h1
    have hn8 : n ≤ 8 := by have := HL.out; omega
    obtain rfl : n2 = n := by have := HL.out; have := HL2.out; omega
    have HF := Lib.hid hf
    clear h8 hle hf
    go_enter Tryd.func45, Tryd.ntmps45
    go_wp2_with (fail)
    refine (implOk_any _ _ _ xs r p _ _ _ ys _ HL.out (hr.up ((Below.refl _ _).alloc (Nat.le_refl _) _) (by simp)) (by omega) HL2.out (hr2.up ((Below.refl _ _).alloc (Nat.le_refl _) _) (by simp)) (by omega)).mono ?_
    rintro e w1 ⟨rfl, hb1⟩
    have t1 := below_boxed hb1
    have hr' := hr.up t1 (Nat.le_refl _)
    have hr2' := hr2.up t1 (Nat.le_refl _)
    clear hr hr2 hb1
    go_wp2
    clear h1
    go_loopw [7, 17] (fun t i wr => ∃ k : Nat, k ≤ n2 ∧ i = .int .i64 k ∧ t = .int .i64 (overTo xs ys k) ∧ Below w1.heap.size w1 wr) (fun _ i _ => n2 - (intOf i).toNat)
    case atStart => exact ⟨0, Nat.zero_le _, rfl, rfl, Below.refl _ _⟩
    case round =>
      obtain ⟨k, hk, rfl, rfl, hbel⟩ := hrel
      have t2 := below_next t1 hbel
      have hsz := t2.size
      have hsz2 := hbel.size
      have hs1 := t1.size
      by_cases hlt : k < n2
      · obtain ⟨⟨x1, x2⟩, hxk⟩ : ∃ q, xs[k]? = some q := ⟨_, List.getElem?_eq_getElem (by have := HL.out; omega)⟩
        obtain ⟨⟨y1, y2⟩, hyk⟩ : ∃ q, ys[k]? = some q := ⟨_, List.getElem?_eq_getElem (by have := HL2.out; omega)⟩
        obtain ⟨b, off, rfl, hbB, hc1, hc2⟩ := hr' k x1 x2 hxk
        obtain ⟨b', off', rfl, hbB', hd1, hd2⟩ := hr2' k y1 y2 hyk
        obtain ⟨x0, x3, y0, y3, y4, y5⟩ := HF.out k x1 x2 y1 y2 hxk hyk
        obtain ⟨o1, o2⟩ := overTo_bounds H1.out k (by have := HL.out; omega)
        rw [← hbel.cell (by show b < _; omega)] at hc1 hc2
        rw [← hbel.cell (by show b' < _; omega)] at hd1 hd2
        have hbw : b < wr.heap.size := by omega
        have hbw' : b' < wr.heap.size := by omega
        have HXK := Lib.hid hxk
        have HYK := Lib.hid hyk
        clear hxk hyk hr' hr2'
        have W1 : IntKind.i64.wrap (y2 - y1) = y2 - y1 := IntWalk.i64_in _ (by omega)
        have W2 : IntKind.i64.wrap (y2 - y1 - x2) = y2 - y1 - x2 := IntWalk.i64_in _ (by omega)
        have W3 : IntKind.i64.wrap (overTo xs ys k + (y2 - y1 - x2)) = overTo xs ys k + (y2 - y1 - x2) := IntWalk.i64_in _ (by omega)
        go_wp2_with (fail)
        go_quiet (fail)
        clear W1 W2 W3
        go_wp2
        go_roundw
        case rel => exact ⟨k + 1, by omega, by go_num, by rw [overTo_succ HXK.out HYK.out], (by repeat' (first | exact Below.refl _ _ | assumption | refine Below.alloc ?_ (by first | omega | (simp; done) | (simp; omega)) _ | refine Below.setCell ?_ (by first | omega | (simp; done) | (simp; omega)) _ | refine Below.drew ?_ | refine below_drawn ?_ _))⟩
        case measure => simp [intOf]; omega
      · go_wp2
        go_ret
        have : k = n2 := by omega
        subst this
        exact ⟨ret_int (by rw [passOver_ok H1.out, HL.out]), t2⟩


set_option maxRecDepth 100000 in
set_option maxHeartbeats 4000000 in
theorem specOver_any (A : Option Addr) (n c : Nat) (xs : List (Int × Int)) (r p : Int) (A2 : Option Addr) (n2 c2 : Nat) (ys : List (Int × Int)) (w : World) (hl : xs.length = n) (hr : RdP w w.heap.size A xs) (hn : n ≤ 1048576) (hl2 : ys.length = n2) (hr2 : RdP w w.heap.size A2 ys) (hn2 : n2 ≤ 1048576) :
    Calls Tryd.prog 46 #[.slice A n c, .agg #[.int .i64 r, .int .i64 p], .slice A2 n2 c2] w fun e w' => e = .returned (.int .i64 (passOver xs r p ys)) ∧ Below w.heap.size w w' := by
  have HL := Lib.hid hl
  have HL2 := Lib.hid hl2
  clear hl hl2
  cases h1 : passesOk xs r p ys
  · go_enter Tryd.func46, Tryd.ntmps46
    go_wp2_with (fail)
    refine (specOk_any _ _ _ xs r p _ _ _ ys _ HL.out (hr.up ((Below.refl _ _).alloc (Nat.le_refl _) _) (by simp)) (by omega) HL2.out (hr2.up ((Below.refl _ _).alloc (Nat.le_refl _) _) (by simp)) (by omega)).mono ?_
    rintro e w1 ⟨rfl, hb1⟩
    have t1 := below_boxed hb1
    go_wp2
    go_ret
    exact ⟨ret_int (passOver_no h1).symm, t1⟩
  · have H1 := Lib.hid h1
    obtain ⟨h8, hle, hf⟩ := passesOk_facts h1
    have hn8 : n ≤ 8 := by have := HL.out; omega
    obtain rfl : n2 = n := by have := HL.out; have := HL2.out; omega
    have HF := Lib.hid hf
    clear h8 hle hf
    go_enter Tryd.func46, Tryd.ntmps46
    go_wp2_with (fail)
    refine (specOk_any _ _ _ xs r p _ _ _ ys _ HL.out (hr.up ((Below.refl _ _).alloc (Nat.le_refl _) _) (by simp)) (by omega) HL2.out (hr2.up ((Below.refl _ _).alloc (Nat.le_refl _) _) (by simp)) (by omega)).mono ?_
    rintro e w1 ⟨rfl, hb1⟩
    have t1 := below_boxed hb1
    have hr' := hr.up t1 (Nat.le_refl _)
    have hr2' := hr2.up t1 (Nat.le_refl _)
    clear hr hr2 hb1
    go_wp2
    clear h1
    go_loopw [7, 8] (fun t i wr => ∃ k : Nat, k ≤ n2 ∧ i = .int .i64 k ∧ t = .int .i64 (overTo xs ys k) ∧ Below w1.heap.size w1 wr) (fun _ i _ => n2 - (intOf i).toNat)
    case atStart => exact ⟨0, Nat.zero_le _, rfl, rfl, Below.refl _ _⟩
    case round =>
      obtain ⟨k, hk, rfl, rfl, hbel⟩ := hrel
      have t2 := below_next t1 hbel
      have hsz := t2.size
      have hsz2 := hbel.size
      have hs1 := t1.size
      by_cases hlt : k < n2
      · obtain ⟨⟨x1, x2⟩, hxk⟩ : ∃ q, xs[k]? = some q := ⟨_, List.getElem?_eq_getElem (by have := HL.out; omega)⟩
        obtain ⟨⟨y1, y2⟩, hyk⟩ : ∃ q, ys[k]? = some q := ⟨_, List.getElem?_eq_getElem (by have := HL2.out; omega)⟩
        obtain ⟨b, off, rfl, hbB, hc1, hc2⟩ := hr' k x1 x2 hxk
        obtain ⟨b', off', rfl, hbB', hd1, hd2⟩ := hr2' k y1 y2 hyk
        obtain ⟨x0, x3, y0, y3, y4, y5⟩ := HF.out k x1 x2 y1 y2 hxk hyk
        obtain ⟨o1, o2⟩ := overTo_bounds H1.out k (by have := HL.out; omega)
        rw [← hbel.cell (by show b < _; omega)] at hc1 hc2
        rw [← hbel.cell (by show b' < _; omega)] at hd1 hd2
        have hbw : b < wr.heap.size := by omega
        have hbw' : b' < wr.heap.size := by omega
        have HXK := Lib.hid hxk
        have HYK := Lib.hid hyk
        clear hxk hyk hr' hr2'
        have W1 : IntKind.i64.wrap (overTo xs ys k + y2) = overTo xs ys k + y2 := IntWalk.i64_in _ (by omega)
        have W2 : IntKind.i64.wrap (overTo xs ys k + y2 - y1) = overTo xs ys k + y2 - y1 := IntWalk.i64_in _ (by omega)
        have W3 : IntKind.i64.wrap (overTo xs ys k + y2 - y1 - x2) = overTo xs ys k + y2 - y1 - x2 := IntWalk.i64_in _ (by omega)
        go_wp2_with (fail)
        go_quiet (fail)
        clear W1 W2 W3
        go_wp2
        go_roundw
        case rel => exact ⟨k + 1, by omega, by go_num, by rw [overTo_succ HXK.out HYK.out]; congr 1; omega, (by repeat' (first | exact Below.refl _ _ | assumption | refine Below.alloc ?_ (by first | omega | (simp; done) | (simp; omega)) _ | refine Below.setCell ?_ (by first | omega | (simp; done) | (simp; omega)) _ | refine Below.drew ?_ | refine below_drawn ?_ _))⟩
        case measure => simp [intOf]; omega
      · go_wp2
        go_ret
        have : k = n2 := by omega
        subst this
        exact ⟨ret_int (by rw [passOver_ok H1.out, HL.out]), t2⟩


set_option maxRecDepth 100000 in
set_option maxHeartbeats 4000000 in
theorem implInside_any (A : Option Addr) (n c : Nat) (xs : List (Int × Int)) (r p : Int) (A2 : Option Addr) (n2 c2 : Nat) (ys : List (Int × Int)) (t : Int) (w : World) (hl : xs.length = n) (hr : RdP w w.heap.size A xs) (hn : n ≤ 1048576) (hl2 : ys.length = n2) (hr2 : RdP w w.heap.size A2 ys) (hn2 : n2 ≤ 1048576) :
    Calls Tryd.prog 52 #[.slice A n c, .agg #[.int .i64 r, .int .i64 p], .slice A2 n2 c2, .int .i64 t] w fun e w' => e = .returned (.int .i64 (passInside xs r p ys t)) ∧ Below w.heap.size w w' := by
  have HL := Lib.hid hl
  have HL2 := Lib.hid hl2
  clear hl hl2
  cases h1 : passesOk xs r p ys
  · go_enter Tryd.func52, Tryd.ntmps52
    go_wp2_with (fail)
    refine (implOk_any _ _ _ xs r p _ _ _ ys _ HL.out (hr.up ((Below.refl _ _).alloc (Nat.le_refl _) _) (by simp)) (by omega) HL2.out (hr2.up ((Below.refl _ _).alloc (Nat.le_refl _) _) (by simp)) (by omega)).mono ?_
    rintro e w1 ⟨rfl, hb1⟩
    have t1 := below_boxed hb1
    go_wp2
    go_ret
    exact ⟨ret_int (passInside_no h1).symm, t1⟩
  · have H1 := Lib.hid h1
    go_enter Tryd.func52, Tryd.ntmps52
    go_wp2_with (fail)
    refine (implOk_any _ _ _ xs r p _ _ _ ys _ HL.out (hr.up ((Below.refl _ _).alloc (Nat.le_refl _) _) (by simp)) (by omega) HL2.out (hr2.up ((Below.refl _ _).alloc (Nat.le_refl _) _) (by simp)) (by omega)).mono ?_
    rintro e w1 ⟨rfl, hb1⟩
    have t1 := below_boxed hb1
    have hr2' := hr2.up t1 (Nat.le_refl _)
    clear hr hr2 hb1
    go_wp2
    clear h1
    go_loopw [9, 19] (fun s i wr => ∃ k : Nat, k ≤ n2 ∧ i = .int .i64 k ∧ s = .int .i64 (inCnt t (ys.take k)) ∧ Below w1.heap.size w1 wr) (fun _ i _ => n2 - (intOf i).toNat)
    case atStart => exact ⟨0, Nat.zero_le _, rfl, rfl, Below.refl _ _⟩
    case round =>
      obtain ⟨k, hk, rfl, rfl, hbel⟩ := hrel
      have t2 := below_next t1 hbel
      have hsz := t2.size
      have hsz2 := hbel.size
      have hs1 := t1.size
      by_cases hlt : k < n2
      · obtain ⟨⟨y1, y2⟩, hyk⟩ : ∃ q, ys[k]? = some q := ⟨_, List.getElem?_eq_getElem (by have := HL2.out; omega)⟩
        obtain ⟨b', off', rfl, hbB', hd1, hd2⟩ := hr2' k y1 y2 hyk
        obtain ⟨o1, o2⟩ := inCnt_bounds t ys k
        rw [← hbel.cell (by show b' < _; omega)] at hd1 hd2
        have HYK := Lib.hid (inCnt_take (t := t) hyk)
        clear hyk hr2'
        by_cases s1 : y1 ≤ t
        · by_cases s2 : t < y2
          · go_wp2
            go_roundw
            case rel => exact ⟨k + 1, by omega, by go_num, by rw [HYK.out]; simp [inAt, s1, s2], (by repeat' (first | exact Below.refl _ _ | assumption | refine Below.alloc ?_ (by first | omega | (simp; done) | (simp; omega)) _ | refine Below.setCell ?_ (by first | omega | (simp; done) | (simp; omega)) _ | refine Below.drew ?_ | refine below_drawn ?_ _))⟩
            case measure => simp [intOf]; omega
          · go_wp2
            go_roundw
            case rel => exact ⟨k + 1, by omega, by go_num, by rw [HYK.out]; simp [inAt, s1, s2], (by repeat' (first | exact Below.refl _ _ | assumption | refine Below.alloc ?_ (by first | omega | (simp; done) | (simp; omega)) _ | refine Below.setCell ?_ (by first | omega | (simp; done) | (simp; omega)) _ | refine Below.drew ?_ | refine below_drawn ?_ _))⟩
            case measure => simp [intOf]; omega
        · go_wp2
          go_roundw
          case rel => exact ⟨k + 1, by omega, by go_num, by rw [HYK.out]; simp [inAt, s1], (by repeat' (first | exact Below.refl _ _ | assumption | refine Below.alloc ?_ (by first | omega | (simp; done) | (simp; omega)) _ | refine Below.setCell ?_ (by first | omega | (simp; done) | (simp; omega)) _ | refine Below.drew ?_ | refine below_drawn ?_ _))⟩
          case measure => simp [intOf]; omega
      · go_wp2
        go_ret
        have : k = n2 := by omega
        subst this
        exact ⟨ret_int (by rw [passInside_ok H1.out, List.take_of_length_le (Nat.le_of_eq HL2.out)]), t2⟩

set_option maxRecDepth 100000 in
set_option maxHeartbeats 4000000 in
theorem specInside_any (A : Option Addr) (n c : Nat) (xs : List (Int × Int)) (r p : Int) (A2 : Option Addr) (n2 c2 : Nat) (ys : List (Int × Int)) (t : Int) (w : World) (hl : xs.length = n) (hr : RdP w w.heap.size A xs) (hn : n ≤ 1048576) (hl2 : ys.length = n2) (hr2 : RdP w w.heap.size A2 ys) (hn2 : n2 ≤ 1048576) :
    Calls Tryd.prog 53 #[.slice A n c, .agg #[.int .i64 r, .int .i64 p], .slice A2 n2 c2, .int .i64 t] w fun e w' => e = .returned (.int .i64 (passInside xs r p ys t)) ∧ Below w.heap.size w w' := by
  have HL := Lib.hid hl
  have HL2 := Lib.hid hl2
  clear hl hl2
  have tb : Below w.heap.size w (w.alloc (.cells #[.int .i64 r, .int .i64 p] 24)) := (Below.refl _ _).alloc (Nat.le_refl _) _
  have H1 : Hid (passesOk xs r p ys = passesOk xs r p ys) := Lib.hid rfl
  go_enter Tryd.func53, Tryd.ntmps53
  go_wp2
  go_loopw [9, 10] (fun s i wr => ∃ k : Nat, k ≤ n2 ∧ i = .int .i64 k ∧ s = .int .i64 (inCnt t (ys.take k)) ∧ OkSeen xs r p ys k ∧ Below w.heap.size w wr ∧ w.heap.size < wr.heap.size ∧ wr.cell? ⟨w.heap.size, 0, none⟩ = some (.int .i64 r) ∧ wr.cell? ⟨w.heap.size, 1, none⟩ = some (.int .i64 p)) (fun _ i _ => n2 - (intOf i).toNat)
  case atStart => exact ⟨0, Nat.zero_le _, rfl, rfl, (.inl rfl : OkSeen xs r p ys 0), tb, by simp, by go_simp, by go_simp⟩
  case round =>
    obtain ⟨k, hk, rfl, rfl, HK, hbel, hws, c1, c2'⟩ := hrel
    have hsz := hbel.size
    obtain ⟨o1, o2⟩ := inCnt_bounds t ys k
    by_cases hlt : k < n2
    · cases h1 : passesOk xs r p ys
      · have HK0 : Hid (k = 0) := Lib.hid (by rcases HK with h | h; exact h; rw [h1] at h; cases h)
        go_wp2_with (fail)
        refine (specOk_any _ _ _ xs r p _ _ _ ys _ HL.out (hr.up hbel hsz) (by omega) HL2.out (hr2.up hbel hsz) (by omega)).mono ?_
        rintro e w1 ⟨rfl, hb1⟩
        go_wp2
        go_ret
        exact ⟨ret_int (by rw [passInside_no h1, HK0.out]; rfl), below_next hbel hb1⟩
      · have H2 := Lib.hid h1
        obtain ⟨⟨y1, y2⟩, hyk⟩ : ∃ q, ys[k]? = some q := ⟨_, List.getElem?_eq_getElem (by have := HL2.out; omega)⟩
        obtain ⟨b', off', rfl, hbB', hd1, hd2⟩ := hr2 k y1 y2 hyk
        have HYK := Lib.hid (inCnt_take (t := t) hyk)
        go_wp2_with (fail)
        refine (specOk_any _ _ _ xs r p _ _ _ ys _ HL.out (hr.up hbel hsz) (by omega) HL2.out (hr2.up hbel hsz) (by omega)).mono ?_
        rintro e w1 ⟨rfl, hb1⟩
        have t1 := below_next hbel hb1
        have hs1 := hb1.size
        have hws1 : w.heap.size < w1.heap.size := by omega
        rw [← t1.cell (by exact hbB')] at hd1 hd2
        have d1 : w1.cell? ⟨w.heap.size, 0, none⟩ = some (.int .i64 r) := (hb1.cell (by exact hws)).trans c1
        have d2 : w1.cell? ⟨w.heap.size, 1, none⟩ = some (.int .i64 p) := (hb1.cell (by exact hws)).trans c2'
        clear hyk hr hr2
        by_cases s1 : y1 ≤ t
        · by_cases s2 : t < y2
          · go_wp2
            go_roundw
            case rel => exact ⟨k + 1, by omega, by go_num, by rw [HYK.out, if_pos (inAt_yes (by omega) (by omega))], (.inr H2.out : OkSeen xs r p ys (k + 1)), t1, hws1, d1, d2⟩
            case measure => simp [intOf]; omega
          · go_wp2
            go_roundw
            case rel => exact ⟨k + 1, by omega, by go_num, by rw [HYK.out, if_neg (inAt_no (by omega)), Int.add_zero], (.inr H2.out : OkSeen xs r p ys (k + 1)), t1, hws1, d1, d2⟩
            case measure => simp [intOf]; omega
        · go_wp2
          go_roundw
          case rel => exact ⟨k + 1, by omega, by go_num, by rw [HYK.out, if_neg (inAt_no (by omega)), Int.add_zero], (.inr H2.out : OkSeen xs r p ys (k + 1)), t1, hws1, d1, d2⟩
          case measure => simp [intOf]; omega
    · have HKN : Hid (k = n2) := Lib.hid (by omega)
      go_wp2
      go_ret
      refine ⟨ret_int ?_, hbel⟩
      rcases HK with h | h
      · have hz : ys = [] := List.eq_nil_of_length_eq_zero (by rw [HL2.out, ← HKN.out, h])
        subst hz
        cases h1 : passesOk xs r p []
        · rw [passInside_no h1]; simp [inCnt]
        · rw [passInside_ok h1]; simp
      · rw [passInside_ok h, List.take_of_length_le (by rw [HL2.out, HKN.out]; exact Nat.le_refl _)]
end Go.Proofs.YtiddlpgpbafdmaaDoor
