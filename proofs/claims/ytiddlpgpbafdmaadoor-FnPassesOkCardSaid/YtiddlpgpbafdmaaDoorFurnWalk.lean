/- The walks of the functions on furnaces: what each of them returns, in the plain words of Furn. -/
import Derived.Test.YtiddlpgpbafdmaaDoorFurn
import Derived.Test.YtiddlpgpbafdmaaDoorCopy
namespace Go.Proofs.YtiddlpgpbafdmaaDoor
open Go.RowKit
set_option linter.unusedVariables false

theorem implFurn_any (r p : Int) (w : World) : Calls Tryd.prog 16 #[.agg #[.int .i64 r, .int .i64 p]] w fun e w' => e = .returned (.bool (furnOk r p)) ∧ Below w.heap.size w w' := by
  cases h1 : inB r 1 8
  · go_enter Tryd.func16, Tryd.ntmps16
    go_wp2_with (go_at_call 56; refine (within_any _ _ _ _).mono ?_; rintro e w' ⟨rfl, rfl⟩)
    go_ret
    exact ⟨ret_bool (by simp [furnOk, h1]), (by repeat' (first | exact Below.refl _ _ | assumption | refine Below.alloc ?_ (by first | omega | (simp; done) | (simp; omega)) _ | refine Below.setCell ?_ (by first | omega | (simp; done) | (simp; omega)) _ | refine Below.drew ?_ | refine below_drawn ?_ _))⟩
  · go_enter Tryd.func16, Tryd.ntmps16
    go_wp2_with (go_at_call 56; refine (within_any _ _ _ _).mono ?_; rintro e w' ⟨rfl, rfl⟩)
    go_ret
    exact ⟨ret_bool (by simp [furnOk, h1]), (by repeat' (first | exact Below.refl _ _ | assumption | refine Below.alloc ?_ (by first | omega | (simp; done) | (simp; omega)) _ | refine Below.setCell ?_ (by first | omega | (simp; done) | (simp; omega)) _ | refine Below.drew ?_ | refine below_drawn ?_ _))⟩
theorem specFurn_any (r p : Int) (w : World) : Calls Tryd.prog 17 #[.agg #[.int .i64 r, .int .i64 p]] w fun e w' => e = .returned (.bool (furnOk r p)) ∧ Below w.heap.size w w' := by
  cases h1 : inB r 1 8
  · go_enter Tryd.func17, Tryd.ntmps17
    go_wp2_with (go_at_call 57; refine (in_any _ _ _ _).mono ?_; rintro e w' ⟨rfl, rfl⟩)
    go_ret
    exact ⟨ret_bool (by simp [furnOk, h1]), (by repeat' (first | exact Below.refl _ _ | assumption | refine Below.alloc ?_ (by first | omega | (simp; done) | (simp; omega)) _ | refine Below.setCell ?_ (by first | omega | (simp; done) | (simp; omega)) _ | refine Below.drew ?_ | refine below_drawn ?_ _))⟩
  · go_enter Tryd.func17, Tryd.ntmps17
    go_wp2_with (go_at_call 57; refine (in_any _ _ _ _).mono ?_; rintro e w' ⟨rfl, rfl⟩)
    go_ret
    exact ⟨ret_bool (by simp [furnOk, h1]), (by repeat' (first | exact Below.refl _ _ | assumption | refine Below.alloc ?_ (by first | omega | (simp; done) | (simp; omega)) _ | refine Below.setCell ?_ (by first | omega | (simp; done) | (simp; omega)) _ | refine Below.drew ?_ | refine below_drawn ?_ _))⟩

theorem implCharges_any (A : Option Addr) (n c : Nat) (xs : List (Int × Int)) (w : World) (hl : xs.length = n) (hr : RdP w w.heap.size A xs) (hn : n ≤ 1048576) :
    Calls Tryd.prog 26 #[.slice A n c] w fun e w' => e = .returned (.bool (chargesOk xs)) ∧ Below w.heap.size w w' := by
  by_cases h8 : (8 : Int) < n
  · go_enter Tryd.func26, Tryd.ntmps26
    go_wp2
    go_ret
    exact ⟨ret_bool (chargesOk_long (by omega)).symm, Below.refl _ _⟩
  · go_enter Tryd.func26, Tryd.ntmps26
    go_wp2
    go_loopw [10] (fun i wr => ∃ k : Nat, k ≤ n ∧ i = .int .i64 k ∧ (xs.take k).all chOk = true ∧ Below w.heap.size w wr) (fun i _ => n - (intOf i).toNat)
    case atStart => exact ⟨0, Nat.zero_le _, rfl, by simp, Below.refl _ _⟩
    case round =>
      obtain ⟨k, hk, rfl, hall, hbel⟩ := hrel
      have hsz := hbel.size
      have HA := Lib.hid hall
      have HL := Lib.hid hl
      clear hall hl
      by_cases hlt : k < n
      · obtain ⟨⟨x, y⟩, hxy⟩ : ∃ q, xs[k]? = some q := ⟨_, List.getElem?_eq_getElem (by have := HL.out; omega)⟩
        obtain ⟨b, off, rfl, hbB, hc1, hc2⟩ := hr k x y hxy
        have HXY := Lib.hid hxy
        clear hxy hr
        rw [← hbel.cell (by exact hbB)] at hc1 hc2
        cases h1 : inB x 0 999
        · go_wp2_with (go_at_call 56; refine (within_any _ _ _ _).mono ?_; rintro e w' ⟨rfl, rfl⟩)
          go_ret
          exact ⟨ret_bool (chargesOk_bad HXY.out (by simp [chOk, h1])).symm, (by repeat' (first | exact Below.refl _ _ | assumption | refine Below.alloc ?_ (by first | omega | (simp; done) | (simp; omega)) _ | refine Below.setCell ?_ (by first | omega | (simp; done) | (simp; omega)) _ | refine Below.drew ?_ | refine below_drawn ?_ _))⟩
        · cases h2 : inB y 1 99
          · go_wp2_with (go_at_call 56; refine (within_any _ _ _ _).mono ?_; rintro e w' ⟨rfl, rfl⟩)
            go_ret
            exact ⟨ret_bool (chargesOk_bad HXY.out (by simp [chOk, h2])).symm, (by repeat' (first | exact Below.refl _ _ | assumption | refine Below.alloc ?_ (by first | omega | (simp; done) | (simp; omega)) _ | refine Below.setCell ?_ (by first | omega | (simp; done) | (simp; omega)) _ | refine Below.drew ?_ | refine below_drawn ?_ _))⟩
          · go_wp2_with (go_at_call 56; refine (within_any _ _ _ _).mono ?_; rintro e w' ⟨rfl, rfl⟩)
            go_roundw
            case rel => exact ⟨k + 1, by omega, by go_num, by rw [all_take_succ HXY.out, HA.out]; simp [chOk, h1, h2], (by repeat' (first | exact Below.refl _ _ | assumption | refine Below.alloc ?_ (by first | omega | (simp; done) | (simp; omega)) _ | refine Below.setCell ?_ (by first | omega | (simp; done) | (simp; omega)) _ | refine Below.drew ?_ | refine below_drawn ?_ _))⟩
            case measure => simp [intOf]; omega
      · go_wp2
        go_ret
        exact ⟨ret_bool (chargesOk_mk (by have := HL.out; omega) (by have h := HA.out; rwa [List.take_of_length_le (by have := HL.out; omega)] at h)).symm, hbel⟩

theorem specCharges_any (A : Option Addr) (n c : Nat) (xs : List (Int × Int)) (w : World) (hl : xs.length = n) (hr : RdP w w.heap.size A xs) (hn : n ≤ 1048576) :
    Calls Tryd.prog 27 #[.slice A n c] w fun e w' => e = .returned (.bool (chargesOk xs)) ∧ w = w' := by
  go_enter Tryd.func27, Tryd.ntmps27
  go_wp2
  go_loop [3] (fun i => ∃ k : Nat, k ≤ n ∧ i = .int .i64 k ∧ (xs.take k).all chOk = true) (fun i => n - (intOf i).toNat)
  case atStart => exact ⟨0, Nat.zero_le _, rfl, by simp⟩
  case round =>
    obtain ⟨k, hk, rfl, hall⟩ := hrel
    have HA := Lib.hid hall
    have HL := Lib.hid hl
    clear hall hl
    by_cases hlt : k < n
    · obtain ⟨⟨x, y⟩, hxy⟩ : ∃ q, xs[k]? = some q := ⟨_, List.getElem?_eq_getElem (by have := HL.out; omega)⟩
      obtain ⟨b, off, rfl, hbB, hc1, hc2⟩ := hr k x y hxy
      have HXY := Lib.hid hxy
      clear hxy hr
      cases h1 : inB x 0 999
      · go_wp2_with (go_at_call 57; refine (in_any _ _ _ _).mono ?_; rintro e w' ⟨rfl, rfl⟩)
        go_ret
        exact ⟨ret_bool (chargesOk_bad HXY.out (by simp [chOk, h1])).symm, rfl⟩
      · cases h2 : inB y 1 99
        · go_wp2_with (go_at_call 57; refine (in_any _ _ _ _).mono ?_; rintro e w' ⟨rfl, rfl⟩)
          go_ret
          exact ⟨ret_bool (chargesOk_bad HXY.out (by simp [chOk, h2])).symm, rfl⟩
        · go_wp2_with (go_at_call 57; refine (in_any _ _ _ _).mono ?_; rintro e w' ⟨rfl, rfl⟩)
          go_round
          case rel => exact ⟨k + 1, by omega, by go_num, by rw [all_take_succ HXY.out, HA.out]; simp [chOk, h1, h2]⟩
          case measure => simp [intOf]; omega
    · by_cases h8 : (n : Int) ≤ 8
      · go_wp2
        go_ret
        exact ⟨ret_bool (chargesOk_mk (by have := HL.out; omega) (by have h := HA.out; rwa [List.take_of_length_le (by have := HL.out; omega)] at h)).symm, rfl⟩
      · go_wp2
        go_ret
        exact ⟨ret_bool (chargesOk_long (by have := HL.out; omega)).symm, rfl⟩
end Go.Proofs.YtiddlpgpbafdmaaDoor
