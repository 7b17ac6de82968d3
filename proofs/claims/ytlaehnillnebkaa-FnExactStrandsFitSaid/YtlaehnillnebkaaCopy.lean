/- The helpers of the laws: what each of them does, for slices of pairs and for slices of ints. -/
import Derived.Test.YtlaehnillnebkaaMem
import Derived.Test.YtlaehnillnebkaaInfo
import Derived.Test.YtlaehnillnebkaaProg
import Derived.Test.YtlaehnillnebkaaLeaf
import Derived.StillTailTactics
import Derived.Deep.QuietTactic
import Derived.BigQuiet
import Derived.Lib.Hide
namespace Go.Proofs.Ytlaehnillnebkaa
open Go.RowKit
set_option linter.unusedVariables false

/-- the marks that are written into pairs, from k on -/
def marksP (k : Int) (n : Nat) : List (Int × Int) := (List.range n).map fun (i : Nat) => (k + 2 * (i : Int), k + 2 * (i : Int) + 1)
def marksI (k : Int) (n : Nat) : List Int := (List.range n).map fun (i : Nat) => k + (i : Int)
def szOf (left : Int) (n : Nat) : Int := if left < n then -1 else left - n
theorem szOf_neg {left : Int} {n : Nat} (h : left < n) : -1 = szOf left n := by rw [szOf, if_pos h]
theorem szOf_ok {left : Int} {n : Nat} (h : (n : Int) ≤ left) : left - n = szOf left n := by rw [szOf, if_neg (by omega)]
theorem marksP_length (k : Int) (n : Nat) : (marksP k n).length = n := by simp [marksP]
theorem marksI_length (k : Int) (n : Nat) : (marksI k n).length = n := by simp [marksI]
theorem marksP_get {k : Int} {n j : Nat} (h : j < n) : (marksP k n)[j]? = some (k + 2 * (j : Int), k + 2 * (j : Int) + 1) := by simp [marksP, h]
theorem marksI_get {k : Int} {n j : Nat} (h : j < n) : (marksI k n)[j]? = some (k + (j : Int)) := by simp [marksI, h]
theorem marks_step {α : Type} {f : Nat → α} {xs : List α} {j n : Nat} (hl : xs.length = n) (hj : j < n) : ((List.range j).map f ++ xs.drop j).set j (f j) = (List.range (j + 1)).map f ++ xs.drop (j + 1) := by
  rw [List.range_succ, List.map_append, List.set_append_right _ _ (by simp)]
  have : j - ((List.range j).map f).length = 0 := by simp
  rw [this, List.drop_eq_getElem_cons (by omega : j < xs.length)]
  simp only [List.set_cons_zero, List.append_assoc, List.singleton_append, List.map_cons, List.map_nil]
theorem grown_set {a w : World} {g : Nat} (h : a.grownBy w (some g)) (i : Nat) (u : Value) : a.grownBy (w.setCell ⟨g, i, none⟩ u) (some g) :=
  ⟨h.os, h.tape, h.output, by simpa using h.size, fun k hk hne => (Below.heap_setCell w ⟨g, i, none⟩ u k (fun e => hne (by rw [e]))).trans (h.block k hk hne)⟩
theorem grown_below {B : Nat} {a w w' : World} {row : Option Nat} (h : Below B a w) (hg : w.grownBy w' row) (hB : B ≤ w.heap.size) (hr : ∀ k, row = some k → B ≤ k) : Below B a w' := h.grown hg hB hr

theorem toIntS_any (A : Option Addr) (n c : Nat) (xs : List Int) (w : World) (hl : xs.length = n) (hr : RdI .i64 w w.heap.size A xs) (hn : n ≤ 1048576) :
    Calls Try.prog 5 #[.slice A n c] w fun e w' => e = .returned (.slice (some ⟨w.heap.size, 0, none⟩) n n) ∧ w'.ownsRow w.heap.size 3 1 (.slice (some ⟨w.heap.size, 0, none⟩) n n) n (intsV .i64 xs) ∧ Below w.heap.size w w' := by
  obtain ⟨i0, hi, hz0, hz1, hz2⟩ := info_parts info_int
  go_enter Try.func5, Try.ntmps5
  go_wp2_with (at_make; refine wpList_make_full _ rfl _ _ 22 rfl w.heap.size 3 i0 _ 1 Try.underlying22 hi hz0 hz1 .i64 .i64 _ _ n rfl rfl rfl rfl (by rw [hz2]; omega) (by unfold maxLen; omega) (Nat.le_refl _) ?_; intro w1 hown1 hgr1)
  rw [madeI] at hown1
  go_loopw [4] (fun i wr => ∃ k : Nat, k ≤ n ∧ i = .int .i64 k ∧ wr.ownsRow w.heap.size 3 1 (.slice (some ⟨w.heap.size, 0, none⟩) n n) n (intsV .i64 (xs.take k ++ List.replicate (n - k) 0)) ∧ Below w.heap.size w wr) (fun i _ => n - (intOf i).toNat)
  case atStart => exact ⟨0, Nat.zero_le _, rfl, by simpa using hown1, (Below.refl _ _).grown hgr1 (Nat.le_refl _) (by simp)⟩
  case round =>
    obtain ⟨k, hk, rfl, hown, hbel⟩ := hrel
    clear hown1 hgr1
    by_cases hlt : k < n
    · obtain ⟨x, hxy⟩ : ∃ q, xs[k]? = some q := ⟨_, List.getElem?_eq_getElem (by omega)⟩
      obtain ⟨b, off, rfl, hbB, hc1⟩ := hr k x hxy
      have HXY := Lib.hid hxy
      have HL := Lib.hid hl
      clear hxy hl hr
      rw [← hbel.cell (by exact hbB)] at hc1
      have f1 := hown.frozenAt k
      obtain ⟨u1, g1⟩ : ∃ u, wr.cell? ⟨w.heap.size, k, none⟩ = some u := ⟨_, (hown.cellAt k (by omega)).trans (List.getElem?_eq_getElem (by have := hown.1; omega))⟩
      go_wp2
      go_roundw
      case rel =>
        refine ⟨k + 1, by omega, by go_num, ?_, ?_⟩
        · rw [← fill_step HL.out HXY.out]
          exact own_set1 hown
        · exact hbel.setCell (by simp) _
      case measure => simp [intOf]; omega
    · go_wp2
      go_ret
      have : k = n := by omega
      subst this
      refine ⟨rfl, ?_, hbel⟩
      simpa [List.take_of_length_le (Nat.le_of_eq hl)] using hown
theorem eqIntS_same (A A' : Option Addr) (n c c' : Nat) (xs : List Int) (w : World) (hl : xs.length = n) (hr : RdI .i64 w w.heap.size A xs) (hr' : RdI .i64 w w.heap.size A' xs) (hn : n ≤ 1048576) :
    Calls Try.prog 7 #[.slice A n c, .slice A' n c'] w fun e w' => e = .returned (.bool true) ∧ Below w.heap.size w w' := by
  go_enter Try.func7, Try.ntmps7
  go_wp2
  go_loopw [5] (fun i wr => ∃ k : Nat, k ≤ n ∧ i = .int .i64 k ∧ Below w.heap.size w wr) (fun i _ => n - (intOf i).toNat)
  case atStart => exact ⟨0, Nat.zero_le _, rfl, Below.refl _ _⟩
  case round =>
    obtain ⟨k, hk, rfl, hbel⟩ := hrel
    by_cases hlt : k < n
    · obtain ⟨x, hxy⟩ : ∃ q, xs[k]? = some q := ⟨_, List.getElem?_eq_getElem (by omega)⟩
      obtain ⟨b, off, rfl, hbB, hc1⟩ := hr k x hxy
      obtain ⟨b', off', rfl, hbB', hd1⟩ := hr' k x hxy
      clear hxy hl hr hr'
      rw [← hbel.cell (by exact hbB)] at hc1
      rw [← hbel.cell (by exact hbB')] at hd1
      go_wp2_with (fail)
      go_quiet (fail)
      go_wp2
      go_roundw
      case rel => exact ⟨k + 1, by omega, by go_num, below_drawn hbel _⟩
      case measure => simp [intOf]; omega
    · go_wp2
      go_ret
      exact ⟨rfl, hbel⟩
theorem markIntS_any (A : Option Addr) (n c : Nat) (k0 : Int) (xs : List Int) (base : Nat) (w : World) (hown : w.ownsRow base 3 1 (.slice A n c) n (intsV .i64 xs)) (hn : n ≤ 1048576) (h0 : 0 ≤ k0) (h1 : k0 ≤ 10000000) :
    Calls Try.prog 8 #[.slice A n c, .int .i64 k0] w fun e w' => e = .returned (.int .i64 (k0 + n)) ∧ w'.ownsRow base 3 1 (.slice A n c) n (intsV .i64 (marksI k0 n)) ∧ w.grownBy w' (Value.slice A n c).ownBlock := by
  have hlen : xs.length = n := by have := hown.1; rw [intsV_length] at this; omega
  rcases hown.2 with ⟨hv, hn0⟩ | ⟨g, cap, cur, hv, _⟩
  · injection hv with hA _ hc
    subst hA hn0
    go_enter Try.func8, Try.ntmps8
    go_wp2
    go_loopw [1, 5] (fun t i wr => t = .int .i64 k0 ∧ i = .int .i64 (0 : Int) ∧ wr = w) (fun _ _ _ => 0)
    case atStart => exact ⟨rfl, rfl, rfl⟩
    case round =>
      obtain ⟨rfl, rfl, rfl⟩ := hrel
      go_wp2
      go_ret
      refine ⟨ret_int (by simp), ?_, World.grownBy.refl _ _⟩
      have : xs = [] := List.eq_nil_of_length_eq_zero hlen
      subst this
      exact hown
  · injection hv with hA _ hc
    subst hA
    have HL := Lib.hid hlen
    clear hlen
    go_enter Try.func8, Try.ntmps8
    go_wp2
    go_loopw [1, 5] (fun t i wr => ∃ j : Nat, j ≤ n ∧ i = .int .i64 j ∧ t = .int .i64 (k0 + (j : Int)) ∧ wr.ownsRow base 3 1 (.slice (some ⟨g, 0, none⟩) n c) n (intsV .i64 (marksI k0 j ++ xs.drop j)) ∧ w.grownBy wr (some g)) (fun _ i _ => n - (intOf i).toNat)
    case atStart => exact ⟨0, Nat.zero_le _, rfl, by simp, by simpa [marksI] using hown, World.grownBy.refl _ _⟩
    case round =>
      obtain ⟨j, hj, rfl, rfl, hownr, hgr⟩ := hrel
      by_cases hlt : j < n
      · have f1 := hownr.frozenAt j
        obtain ⟨u1, g1⟩ : ∃ u, wr.cell? ⟨g, j, none⟩ = some u := ⟨_, (hownr.cellAt j (by omega)).trans (List.getElem?_eq_getElem (by have := hownr.1; omega))⟩
        go_wp2
        go_roundw
        case rel =>
          refine ⟨j + 1, by omega, by go_num, by go_num, ?_, grown_set hgr _ _⟩
          have e := marks_step (f := fun i : Nat => k0 + (i : Int)) HL.out hlt
          rw [show marksI k0 (j + 1) ++ xs.drop (j + 1) = (marksI k0 j ++ xs.drop j).set j (k0 + (j : Int)) from e.symm]
          exact own_set1 hownr
        case measure => simp [intOf]; omega
      · go_wp2
        go_ret
        have : j = n := by omega
        subst this
        refine ⟨rfl, ?_, hgr⟩
        simpa [List.drop_of_length_le (Nat.le_of_eq HL.out)] using hownr
theorem heldIntS_any (A : Option Addr) (n c : Nat) (k0 : Int) (B : Nat) (w : World) (hr : RdI .i64 w B A (marksI k0 n)) (hn : n ≤ 1048576) (h0 : 0 ≤ k0) (h1 : k0 ≤ 10000000) :
    Calls Try.prog 9 #[.slice A n c, .int .i64 k0] w fun e w' => e = .returned (.int .i64 (k0 + n)) ∧ w = w' := by
  go_enter Try.func9, Try.ntmps9
  go_wp2
  go_loop [1, 5] (fun t i => ∃ j : Nat, j ≤ n ∧ i = .int .i64 j ∧ t = .int .i64 (k0 + (j : Int))) (fun _ i => n - (intOf i).toNat)
  case atStart => exact ⟨0, Nat.zero_le _, rfl, by simp⟩
  case round =>
    obtain ⟨j, hj, rfl, rfl⟩ := hrel
    by_cases hlt : j < n
    · obtain ⟨b, off, rfl, hbB, hc1⟩ := hr j _ (marksI_get hlt)
      clear hr
      go_wp2
      go_round
      case rel => exact ⟨j + 1, by omega, by go_num, by go_num⟩
      case measure => simp [intOf]; omega
    · go_wp2
      go_ret
      exact ⟨ret_int (by omega), rfl⟩
end Go.Proofs.Ytlaehnillnebkaa
