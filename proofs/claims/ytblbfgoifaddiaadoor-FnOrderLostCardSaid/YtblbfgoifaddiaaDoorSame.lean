/- The laws' own comparisons of rows: a row is the same as itself. -/
import Derived.Test.YtblbfgoifaddiaaDoorMem
import Derived.Test.YtblbfgoifaddiaaDoorProg
import Derived.Test.YtblbfgoifaddiaaDoorLeaf
import Derived.BigQuiet
import Derived.OwnWalk
import Derived.StillTailTactics
namespace Go.Proofs.YtblbfgoifaddiaaDoor
open Go.RowKit
set_option linter.unusedVariables false
set_option maxHeartbeats 1000000 in
theorem sameInts_same (A A' : Option Addr) (n c c' : Nat) (xs : List Int) (w : World) (hl : xs.length = n) (hr : RdI .i64 w w.heap.size A xs) (hr' : RdI .i64 w w.heap.size A' xs) (hn : n ≤ 1048576) :
    Calls Tryd.prog 9 #[.slice A n c, .slice A' n c'] w fun e w' => e = .returned (.bool true) ∧ Below w.heap.size w w' := by
  go_enter Tryd.func9, Tryd.ntmps9
  go_wp2
  go_loopw [5] (fun i wr => ∃ k : Nat, k ≤ n ∧ i = .int .i64 k ∧ Below w.heap.size w wr) (fun i _ => n - (intOf i).toNat)
  case atStart => exact ⟨0, Nat.zero_le _, rfl, Below.refl _ _⟩
  case round =>
    obtain ⟨k, hk, rfl, hbel⟩ := hrel
    by_cases hlt : k < n
    · obtain ⟨x, hxy⟩ : ∃ q, xs[k]? = some q := ⟨_, List.getElem?_eq_getElem (by omega)⟩
      obtain ⟨b, off, rfl, hbB, hc1⟩ := hr k x hxy
      obtain ⟨b', off', rfl, hbB', hd1⟩ := hr' k x hxy
      clear hxy hl hr hr'
      rw [← hbel.cell (by exact hbB)] at hc1
      rw [← hbel.cell (by exact hbB')] at hd1
      go_wp2_with (fail)
      go_quiet (fail)
      go_wp2
      go_roundw
      case rel => exact ⟨k + 1, by omega, by go_num, below_drawn hbel _⟩
      case measure => simp [intOf] <;> omega
    · go_wp2
      go_ret
      exact ⟨rfl, hbel⟩
end Go.Proofs.YtblbfgoifaddiaaDoor
