/- The walks of the functions that say whether wants and lengths are valid. -/
import Derived.Test.YtcegmlogjbnoeaaDoorCutPlain
import Derived.Test.YtcegmlogjbnoeaaDoorCopy
namespace Go.Proofs.YtcegmlogjbnoeaaDoor
open Go.RowKit
set_option linter.unusedVariables false
theorem implWants_any (A : Option Addr) (n c : Nat) (xs : List Int) (long : Int) (w : World) (hl : xs.length = n) (hr : RdI .i64 w w.heap.size A xs) (hn : n ≤ 1048576) :
    Calls Tryd.prog 33 #[.slice A n c, .int .i64 long] w fun e w' => e = .returned (.bool (wantsOk xs long)) ∧ w = w' := by
  by_cases h8 : (8 : Int) < n
  · have hd : decide ((8 : Int) < (n : Int)) = true := by simpa using h8
    go_enter Tryd.func33, Tryd.ntmps33
    go_wp2_with (go_at_call 72; refine (within_any _ _ _ _).mono ?_; rintro e w' ⟨rfl, rfl⟩)
    go_ret
    exact ⟨ret_bool (wantsOk_long (by omega)).symm, rfl⟩
  · cases h1 : inB long 1 60
    · go_enter Tryd.func33, Tryd.ntmps33
      go_wp2_with (go_at_call 72; refine (within_any _ _ _ _).mono ?_; rintro e w' ⟨rfl, rfl⟩)
      go_ret
      exact ⟨ret_bool (wantsOk_no h1).symm, rfl⟩
    · have HL := Lib.hid hl
      clear hl
      go_enter Tryd.func33, Tryd.ntmps33
      go_wp2_with (go_at_call 72; refine (within_any _ _ _ _).mono ?_; rintro e w' ⟨rfl, rfl⟩)
      go_loop [17] (fun i => ∃ k : Nat, k ≤ n ∧ i = .int .i64 k ∧ ((xs.take k).all fun q => inB q 1 long) = true) (fun i => n - (intOf i).toNat)
      case atStart => exact ⟨0, Nat.zero_le _, rfl, by simp⟩
      case round =>
        obtain ⟨k, hk, rfl, hall⟩ := hrel
        have HA := Lib.hid hall
        clear hall
        by_cases hlt : k < n
        · obtain ⟨x, hxy⟩ : ∃ q, xs[k]? = some q := ⟨_, List.getElem?_eq_getElem (by have := HL.out; omega)⟩
          obtain ⟨b, off, rfl, hbB, hc1⟩ := hr k x hxy
          have HXY := Lib.hid hxy
          clear hxy hr
          cases h2 : inB x 1 long
          · go_wp2_with (go_at_call 72; refine (within_any _ _ _ _).mono ?_; rintro e w' ⟨rfl, rfl⟩)
            go_ret
            exact ⟨ret_bool (wantsOk_bad HXY.out h2).symm, rfl⟩
          · go_wp2_with (go_at_call 72; refine (within_any _ _ _ _).mono ?_; rintro e w' ⟨rfl, rfl⟩)
            go_round
            case rel => exact ⟨k + 1, by omega, by go_num, by rw [allI_take_succ HXY.out, HA.out]; simp [h2]⟩
            case measure => simp [intOf]; omega
        · go_wp2
          go_ret
          exact ⟨ret_bool (wantsOk_mk (by have := HL.out; omega) h1 (by have h := HA.out; rwa [List.take_of_length_le (by have := HL.out; omega)] at h)).symm, rfl⟩
theorem specWants_any (A : Option Addr) (n c : Nat) (xs : List Int) (long : Int) (w : World) (hl : xs.length = n) (hr : RdI .i64 w w.heap.size A xs) (hn : n ≤ 1048576) :
    Calls Tryd.prog 34 #[.slice A n c, .int .i64 long] w fun e w' => e = .returned (.bool (wantsOk xs long)) ∧ w = w' := by
  have HL := Lib.hid hl
  clear hl
  go_enter Tryd.func34, Tryd.ntmps34
  go_wp2
  go_loop [5] (fun i => ∃ k : Nat, k ≤ n ∧ i = .int .i64 k ∧ ((xs.take k).all fun q => inB q 1 long) = true) (fun i => n - (intOf i).toNat)
  case atStart => exact ⟨0, Nat.zero_le _, rfl, by simp⟩
  case round =>
    obtain ⟨k, hk, rfl, hall⟩ := hrel
    have HA := Lib.hid hall
    clear hall
    by_cases hlt : k < n
    · obtain ⟨x, hxy⟩ : ∃ q, xs[k]? = some q := ⟨_, List.getElem?_eq_getElem (by have := HL.out; omega)⟩
      obtain ⟨b, off, rfl, hbB, hc1⟩ := hr k x hxy
      have HXY := Lib.hid hxy
      clear hxy hr
      cases h2 : inB x 1 long
      · go_wp2_with (go_at_call 75; refine (in_any _ _ _ _).mono ?_; rintro e w' ⟨rfl, rfl⟩)
        go_ret
        exact ⟨ret_bool (wantsOk_bad HXY.out h2).symm, rfl⟩
      · go_wp2_with (go_at_call 75; refine (in_any _ _ _ _).mono ?_; rintro e w' ⟨rfl, rfl⟩)
        go_round
        case rel => exact ⟨k + 1, by omega, by go_num, by rw [allI_take_succ HXY.out, HA.out]; simp [h2]⟩
        case measure => simp [intOf]; omega
    · have HF : Hid ((xs.all fun q => inB q 1 long) = true) := Lib.hid (by have h := HA.out; rwa [List.take_of_length_le (by have := HL.out; omega)] at h)
      cases h1 : inB long 1 60
      · go_wp2_with (go_at_call 75; refine (in_any _ _ _ _).mono ?_; rintro e w' ⟨rfl, rfl⟩)
        go_ret
        exact ⟨ret_bool (wantsOk_no h1).symm, rfl⟩
      · by_cases h8 : (n : Int) ≤ 8
        · go_wp2_with (go_at_call 75; refine (in_any _ _ _ _).mono ?_; rintro e w' ⟨rfl, rfl⟩)
          go_ret
          exact ⟨ret_bool (wantsOk_mk (by have := HL.out; omega) h1 HF.out).symm, rfl⟩
        · go_wp2_with (go_at_call 75; refine (in_any _ _ _ _).mono ?_; rintro e w' ⟨rfl, rfl⟩)
          go_ret
          exact ⟨ret_bool (by rw [wantsOk_long (by have := HL.out; omega)]; simp; omega), rfl⟩
end Go.Proofs.YtcegmlogjbnoeaaDoor
