/- The walks of the functions that say whether wanted lengths are valid. -/
import Derived.Test.YtcegmlogjbnoeaaDoorCutPlain
import Derived.Test.YtcegmlogjbnoeaaDoorCopy
import Derived.Deep.QuietTactic
import Derived.BigQuiet
namespace Go.Proofs.YtcegmlogjbnoeaaDoor
open Go.RowKit
set_option linter.unusedVariables false
/-- what the length before means for the next one -/
def Prev (xs : List Int) (k : Nat) (bf : Int) : Prop := ∀ x, xs[k]? = some x → ascAt xs k = inB x (bf + 1) 60
theorem Prev.zero (xs : List Int) : Prev xs 0 0 := fun x hx => ascAt_zero hx
theorem Prev.succ {xs : List Int} {k : Nat} {l : Int} (hl : xs[k]? = some l) : Prev xs (k + 1) l := fun x hx => ascAt_succ hl hx
theorem implLengths_any (A : Option Addr) (n c : Nat) (xs : List Int) (w : World) (hl : xs.length = n) (hr : RdI .i64 w w.heap.size A xs) (hn : n ≤ 1048576) :
    Calls Tryd.prog 27 #[.slice A n c] w fun e w' => e = .returned (.bool (lengthsOk xs)) ∧ w = w' := by
  cases h1 : inB (n : Int) 1 4
  · go_enter Tryd.func27, Tryd.ntmps27
    go_wp2_with (go_at_call 72; refine (within_any _ _ _ _).mono ?_; rintro e w' ⟨rfl, rfl⟩)
    go_ret
    exact ⟨ret_bool (lengthsOk_no (by rw [hl]; exact h1)).symm, rfl⟩
  · have HL := Lib.hid hl
    clear hl
    go_enter Tryd.func27, Tryd.ntmps27
    go_wp2_with (go_at_call 72; refine (within_any _ _ _ _).mono ?_; rintro e w' ⟨rfl, rfl⟩)
    have H1 := Lib.hid h1
    clear h1
    go_loop [3, 12] (fun t i => ∃ (k : Nat) (bf : Int), k ≤ n ∧ i = .int .i64 k ∧ t = .int .i64 bf ∧ 0 ≤ bf ∧ bf ≤ 60 ∧ Prev xs k bf ∧ (List.range k).all (ascAt xs) = true) (fun _ i => n - (intOf i).toNat)
    case atStart => exact ⟨0, 0, Nat.zero_le _, rfl, rfl, by omega, by omega, Prev.zero xs, rfl⟩
    case round =>
      obtain ⟨k, bf, hk, rfl, rfl, b0, b1, hp, hall⟩ := hrel
      have HA := Lib.hid hall
      clear hall
      by_cases hlt : k < n
      · obtain ⟨x, hxy⟩ : ∃ q, xs[k]? = some q := ⟨_, List.getElem?_eq_getElem (by have := HL.out; omega)⟩
        obtain ⟨b, off, rfl, hbB, hc1⟩ := hr k x hxy
        have HXY := Lib.hid hxy
        have HP := Lib.hid (hp x hxy)
        have hkx : k < xs.length := by have := HL.out; omega
        clear hxy hr hp
        cases h2 : inB x (bf + 1) 60
        · go_wp2_with (go_at_call 72; refine (within_any _ _ _ _).mono ?_; rintro e w' ⟨rfl, rfl⟩)
          go_ret
          exact ⟨ret_bool (lengthsOk_bad hkx (HP.out.trans h2)).symm, rfl⟩
        · obtain ⟨x0, x1⟩ := inB_iff.1 h2
          go_wp2_with (go_at_call 72; refine (within_any _ _ _ _).mono ?_; rintro e w' ⟨rfl, rfl⟩)
          go_round
          case rel => exact ⟨k + 1, x, by omega, by go_num, rfl, by omega, by omega, Prev.succ HXY.out, allR_succ HA.out (HP.out.trans h2)⟩
          case measure => simp [intOf]; omega
      · go_wp2
        go_ret
        have : k = n := by omega
        subst this
        exact ⟨ret_bool (lengthsOk_mk (by rw [HL.out]; exact H1.out) (by rw [HL.out]; exact HA.out)).symm, rfl⟩
set_option maxHeartbeats 4000000 in
theorem specLengths_any (A : Option Addr) (n c : Nat) (xs : List Int) (w : World) (hl : xs.length = n) (hr : RdI .i64 w w.heap.size A xs) (hn : n ≤ 1048576) :
    Calls Tryd.prog 28 #[.slice A n c] w fun e w' => e = .returned (.bool (lengthsOk xs)) ∧ Below w.heap.size w w' := by
  have HL := Lib.hid hl
  clear hl
  go_enter Tryd.func28, Tryd.ntmps28
  go_wp2
  go_loopw [3] (fun i wr => ∃ k : Nat, k ≤ n ∧ i = .int .i64 k ∧ (List.range k).all (ascAt xs) = true ∧ Below w.heap.size w wr) (fun i _ => n - (intOf i).toNat)
  case atStart => exact ⟨0, Nat.zero_le _, rfl, rfl, Below.refl _ _⟩
  case round =>
    obtain ⟨k, hk, rfl, hall, hbel⟩ := hrel
    have HA := Lib.hid hall
    clear hall
    by_cases hlt : k < n
    · obtain ⟨x, hxy⟩ : ∃ q, xs[k]? = some q := ⟨_, List.getElem?_eq_getElem (by have := HL.out; omega)⟩
      obtain ⟨b, off, rfl, hbB, hc1⟩ := hr k x hxy
      rw [← hbel.cell (by exact hbB)] at hc1
      have HXY := Lib.hid hxy
      have hkx : k < xs.length := by have := HL.out; omega
      clear hxy
      rcases k with _ | m
      · clear hr
        have HP := Lib.hid (ascAt_zero HXY.out)
        simp only [Nat.add_zero] at hc1
        simp only [show ((0 : Nat) : Int) = 0 from rfl]
        cases h2 : inB x 1 60
        · go_wp2_with (fail)
          go_quiet ((go_at_call 75; exact Calls.quiet_of_same ((in_any _ _ _ _).mono fun e w' h => ⟨h.1, h.2.symm⟩)))
          go_wp2
          go_ret
          exact ⟨ret_bool (lengthsOk_bad hkx (HP.out.trans h2)).symm, (by repeat' (first | exact Below.refl _ _ | assumption | refine Below.alloc ?_ (by first | omega | (simp; done) | (simp; omega)) _ | refine Below.setCell ?_ (by first | omega | (simp; done) | (simp; omega)) _ | refine Below.drew ?_ | refine below_drawn ?_ _))⟩
        · go_wp2_with (fail)
          go_quiet ((go_at_call 75; exact Calls.quiet_of_same ((in_any _ _ _ _).mono fun e w' h => ⟨h.1, h.2.symm⟩)))
          go_wp2
          go_roundw
          case rel => exact ⟨1, by omega, by go_num, allR_succ (k := 0) rfl (HP.out.trans h2), (by repeat' (first | exact Below.refl _ _ | assumption | refine Below.alloc ?_ (by first | omega | (simp; done) | (simp; omega)) _ | refine Below.setCell ?_ (by first | omega | (simp; done) | (simp; omega)) _ | refine Below.drew ?_ | refine below_drawn ?_ _))⟩
          case measure => simp [intOf]; omega
      · obtain ⟨l, hlk⟩ : ∃ q, xs[m]? = some q := ⟨_, List.getElem?_eq_getElem (by have := HL.out; omega)⟩
        obtain ⟨b3, off3, e3, hb3, hd1⟩ := hr m l hlk
        injection e3 with e3
        injection e3 with e3 e4 _
        subst e3 e4
        rw [← hbel.cell (by exact hb3)] at hd1
        obtain ⟨l0, l1⟩ := asc_bounds (fun i hi => allR_at HA.out (show i < m + 1 by omega)) hlk
        have HP := Lib.hid (ascAt_succ hlk HXY.out)
        clear hlk hb3 hr
        have W3 : IntKind.i64.wrap ((m : Int) + 1 - 1) = (m : Int) := by rw [IntWalk.i64_in _ (by omega)]; omega
        cases h2 : inB x 1 60
        · go_wp2_with (fail)
          go_quiet ((go_at_call 75; exact Calls.quiet_of_same ((in_any _ _ _ _).mono fun e w' h => ⟨h.1, h.2.symm⟩)))
          clear W3
          go_wp2
          go_ret
          exact ⟨ret_bool (lengthsOk_bad hkx (HP.out.trans (inB_false (fun h => by have := inB_true (n := x) (l := 1) (h := 60) (by omega) h.2; rw [h2] at this; cases this)))).symm, (by repeat' (first | exact Below.refl _ _ | assumption | refine Below.alloc ?_ (by first | omega | (simp; done) | (simp; omega)) _ | refine Below.setCell ?_ (by first | omega | (simp; done) | (simp; omega)) _ | refine Below.drew ?_ | refine below_drawn ?_ _))⟩
        · obtain ⟨x0, x1⟩ := inB_iff.1 h2
          by_cases h3 : x ≤ l
          · go_wp2_with (fail)
            go_quiet ((go_at_call 75; exact Calls.quiet_of_same ((in_any _ _ _ _).mono fun e w' h => ⟨h.1, h.2.symm⟩)))
            clear W3
            go_wp2
            go_ret
            exact ⟨ret_bool (lengthsOk_bad hkx (HP.out.trans (inB_false (by omega)))).symm, (by repeat' (first | exact Below.refl _ _ | assumption | refine Below.alloc ?_ (by first | omega | (simp; done) | (simp; omega)) _ | refine Below.setCell ?_ (by first | omega | (simp; done) | (simp; omega)) _ | refine Below.drew ?_ | refine below_drawn ?_ _))⟩
          · go_wp2_with (fail)
            go_quiet ((go_at_call 75; exact Calls.quiet_of_same ((in_any _ _ _ _).mono fun e w' h => ⟨h.1, h.2.symm⟩)))
            clear W3
            go_wp2
            go_roundw
            case rel => exact ⟨m + 2, by omega, by go_num, allR_succ (k := m + 1) HA.out (HP.out.trans (inB_true (by omega) x1)), (by repeat' (first | exact Below.refl _ _ | assumption | refine Below.alloc ?_ (by first | omega | (simp; done) | (simp; omega)) _ | refine Below.setCell ?_ (by first | omega | (simp; done) | (simp; omega)) _ | refine Below.drew ?_ | refine below_drawn ?_ _))⟩
            case measure => simp [intOf]; omega
    · have : k = n := by omega
      subst this
      cases h1 : inB (k : Int) 1 4
      · go_wp2_with (go_at_call 75; refine (in_any _ _ _ _).mono ?_; rintro e w' ⟨rfl, rfl⟩)
        go_ret
        exact ⟨ret_bool (lengthsOk_no (by rw [HL.out]; exact h1)).symm, hbel⟩
      · go_wp2_with (go_at_call 75; refine (in_any _ _ _ _).mono ?_; rintro e w' ⟨rfl, rfl⟩)
        go_ret
        exact ⟨ret_bool (lengthsOk_mk (by rw [HL.out]; exact h1) (by rw [HL.out]; exact HA.out)).symm, hbel⟩
end Go.Proofs.YtcegmlogjbnoeaaDoor
