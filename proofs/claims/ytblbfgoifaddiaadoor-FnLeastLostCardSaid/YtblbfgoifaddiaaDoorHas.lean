/- Whether a list has a number: the reference's own walk, and the library's two functions. -/
import Derived.Test.YtblbfgoifaddiaaDoorCutPlain
import Derived.Test.YtblbfgoifaddiaaDoorMem
import Derived.Test.YtblbfgoifaddiaaDoorProg
import Derived.Test.YtblbfgoifaddiaaDoorLeaf
import Derived.Deep.QuietTactic
import Derived.BigQuiet
import Derived.Lib.Hide
namespace Go.Proofs.YtblbfgoifaddiaaDoor
open Go.RowKit
set_option linter.unusedVariables false
/-- the first k numbers are others -/
def NotIn (xs : List Int) (v : Int) (k : Nat) : Prop := hasI (xs.take k) v = false
theorem NotIn.zero (xs : List Int) (v : Int) : NotIn xs v 0 := by simp [NotIn, hasI]
theorem NotIn.succ {xs : List Int} {v x : Int} {k : Nat} (h : NotIn xs v k) (hx : xs[k]? = some x) (hne : x ≠ v) : NotIn xs v (k + 1) := by
  unfold NotIn hasI at h ⊢
  rw [List.take_add_one, hx, Option.toList_some, List.contains_append, h]
  simpa using fun e => hne e.symm
theorem NotIn.all {xs : List Int} {v : Int} {k : Nat} (h : NotIn xs v k) (hk : xs.length ≤ k) : hasI xs v = false := by
  unfold NotIn at h; rwa [List.take_of_length_le hk] at h
theorem has_at {xs : List Int} {v : Int} {k : Nat} (hx : xs[k]? = some v) : hasI xs v = true := by
  unfold hasI; rw [List.contains_iff_mem]; exact List.mem_of_getElem? hx
theorem has_any (A : Option Addr) (n c : Nat) (xs : List Int) (v : Int) (w : World) (hl : xs.length = n) (hr : RdI .i64 w w.heap.size A xs) (hn : n ≤ 1048576) :
    Calls Tryd.prog 59 #[.slice A n c, .int .i64 v] w fun e w' => e = .returned (.bool (hasI xs v)) ∧ w = w' := by
  have HL := Lib.hid hl
  clear hl
  go_enter Tryd.func59, Tryd.ntmps59
  go_wp2
  go_loop [5] (fun i => ∃ k : Nat, k ≤ n ∧ i = .int .i64 k ∧ NotIn xs v k) (fun i => n - (intOf i).toNat)
  case atStart => exact ⟨0, Nat.zero_le _, rfl, NotIn.zero _ _⟩
  case round =>
    obtain ⟨k, hk, rfl, hno⟩ := hrel
    by_cases hlt : k < n
    · obtain ⟨x, hx⟩ : ∃ x, xs[k]? = some x := ⟨_, List.getElem?_eq_getElem (by rw [HL.out]; omega)⟩
      obtain ⟨b, off, rfl, hbB, hc⟩ := hr k x hx
      have HX := Lib.hid hx
      clear hx hr
      by_cases s : x = v
      · subst s
        have HY := Lib.hid (has_at HX.out)
        go_wp2
        go_ret
        exact ⟨ret_bool HY.out.symm, rfl⟩
      · have d : (x == v) = false := by simpa using s
        have HN := Lib.hid (hno.succ HX.out s)
        go_wp2
        go_round
        case rel => exact ⟨k + 1, by omega, by go_num, HN.out⟩
        case measure => simp [intOf] <;> omega
    · have HN := Lib.hid (hno.all (by rw [HL.out]; omega))
      go_wp2
      go_ret
      exact ⟨ret_bool HN.out.symm, rfl⟩
end Go.Proofs.YtblbfgoifaddiaaDoor
