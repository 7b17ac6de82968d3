/- The helpers of the laws: what each of them does, for slices of pairs and for slices of ints. -/
import Derived.Test.YtblbfgoifaddiaaDoorMem
import Derived.Test.YtblbfgoifaddiaaDoorInfo
import Derived.Test.YtblbfgoifaddiaaDoorProg
import Derived.Test.YtblbfgoifaddiaaDoorLeaf
import Derived.StillTailTactics
import Derived.Deep.QuietTactic
import Derived.BigQuiet
import Derived.Lib.Hide
namespace Go.Proofs.YtblbfgoifaddiaaDoor
open Go.RowKit
set_option linter.unusedVariables false

/-- the marks that are written into pairs, from k on -/
def marksP (k : Int) (n : Nat) : List (Int × Int) := (List.range n).map fun (i : Nat) => (k + 2 * (i : Int), k + 2 * (i : Int) + 1)
def marksI (k : Int) (n : Nat) : List Int := (List.range n).map fun (i : Nat) => k + (i : Int)
def szOf (left : Int) (n : Nat) : Int := if left < n then -1 else left - n
theorem szOf_neg {left : Int} {n : Nat} (h : left < n) : -1 = szOf left n := by rw [szOf, if_pos h]
theorem szOf_ok {left : Int} {n : Nat} (h : (n : Int) ≤ left) : left - n = szOf left n := by rw [szOf, if_neg (by omega)]
theorem marksP_length (k : Int) (n : Nat) : (marksP k n).length = n := by simp [marksP]
theorem marksI_length (k : Int) (n : Nat) : (marksI k n).length = n := by simp [marksI]
theorem marksP_get {k : Int} {n j : Nat} (h : j < n) : (marksP k n)[j]? = some (k + 2 * (j : Int), k + 2 * (j : Int) + 1) := by simp [marksP, h]
theorem marksI_get {k : Int} {n j : Nat} (h : j < n) : (marksI k n)[j]? = some (k + (j : Int)) := by simp [marksI, h]
theorem marks_step {α : Type} {f : Nat → α} {xs : List α} {j n : Nat} (hl : xs.length = n) (hj : j < n) : ((List.range j).map f ++ xs.drop j).set j (f j) = (List.range (j + 1)).map f ++ xs.drop (j + 1) := by
  rw [List.range_succ, List.map_append, List.set_append_right _ _ (by simp)]
  have : j - ((List.range j).map f).length = 0 := by simp
  rw [this, List.drop_eq_getElem_cons (by omega : j < xs.length)]
  simp only [List.set_cons_zero, List.append_assoc, List.singleton_append, List.map_cons, List.map_nil]
theorem grown_set {a w : World} {g : Nat} (h : a.grownBy w (some g)) (i : Nat) (u : Value) : a.grownBy (w.setCell ⟨g, i, none⟩ u) (some g) :=
  ⟨h.os, h.tape, h.output, by simpa using h.size, fun k hk hne => (Below.heap_setCell w ⟨g, i, none⟩ u k (fun e => hne (by rw [e]))).trans (h.block k hk hne)⟩
theorem grown_below {B : Nat} {a w w' : World} {row : Option Nat} (h : Below B a w) (hg : w.grownBy w' row) (hB : B ≤ w.heap.size) (hr : ∀ k, row = some k → B ≤ k) : Below B a w' := h.grown hg hB hr

end Go.Proofs.YtblbfgoifaddiaaDoor
