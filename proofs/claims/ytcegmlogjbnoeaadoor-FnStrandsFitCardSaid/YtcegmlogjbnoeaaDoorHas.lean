/- Whether a list has a number: the reference's own walk, and the library's two functions. -/
import Derived.Test.YtcegmlogjbnoeaaDoorCutPlain
import Derived.Test.YtcegmlogjbnoeaaDoorMem
import Derived.Test.YtcegmlogjbnoeaaDoorProg
import Derived.Test.YtcegmlogjbnoeaaDoorLeaf
import Derived.Deep.QuietTactic
import Derived.BigQuiet
import Derived.Lib.Hide
namespace Go.Proofs.YtcegmlogjbnoeaaDoor
open Go.RowKit
set_option linter.unusedVariables false
/-- the first k numbers are others -/
def NotIn (xs : List Int) (v : Int) (k : Nat) : Prop := hasI (xs.take k) v = false
theorem NotIn.zero (xs : List Int) (v : Int) : NotIn xs v 0 := by simp [NotIn, hasI]
theorem NotIn.succ {xs : List Int} {v x : Int} {k : Nat} (h : NotIn xs v k) (hx : xs[k]? = some x) (hne : x ≠ v) : NotIn xs v (k + 1) := by
  unfold NotIn hasI at h ⊢
  rw [List.take_add_one, hx, Option.toList_some, List.contains_append, h]
  simpa using fun e => hne e.symm
theorem NotIn.all {xs : List Int} {v : Int} {k : Nat} (h : NotIn xs v k) (hk : xs.length ≤ k) : hasI xs v = false := by
  unfold NotIn at h; rwa [List.take_of_length_le hk] at h
theorem has_at {xs : List Int} {v : Int} {k : Nat} (hx : xs[k]? = some v) : hasI xs v = true := by
  unfold hasI; rw [List.contains_iff_mem]; exact List.mem_of_getElem? hx
theorem has_any (A : Option Addr) (n c : Nat) (xs : List Int) (v : Int) (w : World) (hl : xs.length = n) (hr : RdI .i64 w w.heap.size A xs) (hn : n ≤ 1048576) :
    Calls Tryd.prog 85 #[.slice A n c, .int .i64 v] w fun e w' => e = .returned (.bool (hasI xs v)) ∧ w = w' := by
  have HL := Lib.hid hl
  clear hl
  go_enter Tryd.func85, Tryd.ntmps85
  go_wp2
  go_loop [5] (fun i => ∃ k : Nat, k ≤ n ∧ i = .int .i64 k ∧ NotIn xs v k) (fun i => n - (intOf i).toNat)
  case atStart => exact ⟨0, Nat.zero_le _, rfl, NotIn.zero _ _⟩
  case round =>
    obtain ⟨k, hk, rfl, hno⟩ := hrel
    by_cases hlt : k < n
    · obtain ⟨x, hx⟩ : ∃ x, xs[k]? = some x := ⟨_, List.getElem?_eq_getElem (by rw [HL.out]; omega)⟩
      obtain ⟨b, off, rfl, hbB, hc⟩ := hr k x hx
      have HX := Lib.hid hx
      clear hx hr
      by_cases s : x = v
      · subst s
        have HY := Lib.hid (has_at HX.out)
        go_wp2
        go_ret
        exact ⟨ret_bool HY.out.symm, rfl⟩
      · have d : (x == v) = false := by simpa using s
        have HN := Lib.hid (hno.succ HX.out s)
        go_wp2
        go_round
        case rel => exact ⟨k + 1, by omega, by go_num, HN.out⟩
        case measure => simp [intOf] <;> omega
    · have HN := Lib.hid (hno.all (by rw [HL.out]; omega))
      go_wp2
      go_ret
      exact ⟨ret_bool HN.out.symm, rfl⟩
/-- what 'slices.Index' returns: a place, or -1 -/
def IdxOf (xs : List Int) (v q : Int) : Prop := (0 ≤ q ∧ hasI xs v = true) ∨ (q = -1 ∧ hasI xs v = false)
def IdxRet (xs : List Int) (v : Int) (w : World) (e : Ending) (w' : World) : Prop := ∃ q : Int, e = .returned (.int .i64 q) ∧ IdxOf xs v q ∧ w = w'
theorem index_any (A : Option Addr) (n c : Nat) (xs : List Int) (v : Int) (w : World) (hl : xs.length = n) (hr : RdI .i64 w w.heap.size A xs) (hn : n ≤ 1048576) :
    Calls Tryd.prog 92 #[.slice A n c, .int .i64 v] w (IdxRet xs v w) := by
  have HL := Lib.hid hl
  clear hl
  go_enter Tryd.func92, Tryd.ntmps92
  go_wp2
  go_loop [8] (fun i => ∃ k : Nat, k ≤ n ∧ i = .int .i64 k ∧ NotIn xs v k) (fun i => n - (intOf i).toNat)
  case atStart => exact ⟨0, Nat.zero_le _, rfl, NotIn.zero _ _⟩
  case round =>
    obtain ⟨k, hk, rfl, hno⟩ := hrel
    by_cases hlt : k < n
    · obtain ⟨x, hx⟩ : ∃ x, xs[k]? = some x := ⟨_, List.getElem?_eq_getElem (by rw [HL.out]; omega)⟩
      obtain ⟨b, off, rfl, hbB, hc⟩ := hr k x hx
      have HX := Lib.hid hx
      clear hx hr
      by_cases s : x = v
      · subst s
        have HY := Lib.hid (has_at HX.out)
        go_wp2
        go_ret
        exact ⟨_, rfl, .inl ⟨by omega, HY.out⟩, rfl⟩
      · have d : (v == x) = false := by simpa using fun e => s e.symm
        have HN := Lib.hid (hno.succ HX.out s)
        go_wp2
        go_round
        case rel => exact ⟨k + 1, by omega, by go_num, HN.out⟩
        case measure => simp [intOf] <;> omega
    · have HN := Lib.hid (hno.all (by rw [HL.out]; omega))
      go_wp2
      go_ret
      exact ⟨_, rfl, .inr ⟨rfl, HN.out⟩, rfl⟩
theorem contains_any (A : Option Addr) (n c : Nat) (xs : List Int) (v : Int) (w : World) (hl : xs.length = n) (hr : RdI .i64 w w.heap.size A xs) (hn : n ≤ 1048576) :
    Calls Tryd.prog 84 #[.slice A n c, .int .i64 v] w fun e w' => e = .returned (.bool (hasI xs v)) ∧ w = w' := by
  go_enter Tryd.func84, Tryd.ntmps84
  go_wp2_with (fail)
  refine (index_any _ _ _ xs v _ hl hr hn).mono ?_
  rintro e w1 ⟨q, rfl, hq, rfl⟩
  go_wp2
  go_ret
  refine ⟨ret_bool ?_, rfl⟩
  rcases hq with ⟨h0, h⟩ | ⟨rfl, h⟩
  · rw [h]; simpa using h0
  · rw [h]; rfl
end Go.Proofs.YtcegmlogjbnoeaaDoor
