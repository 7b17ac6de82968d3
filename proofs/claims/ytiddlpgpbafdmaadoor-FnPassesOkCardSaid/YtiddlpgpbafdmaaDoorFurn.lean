/- Plain law: furnaces. Valid slabs, valid furnaces, times, and what follows from them: no program in sight. -/
import Derived.Test.YtiddlpgpbafdmaaDoorInts
namespace Go.Proofs.YtiddlpgpbafdmaaDoor
set_option linter.unusedVariables false

def chOk (q : Int × Int) : Bool := inB q.1 0 999 && inB q.2 1 99
theorem chOk_iff {x y : Int} : chOk (x, y) = true ↔ 0 ≤ x ∧ x ≤ 999 ∧ 1 ≤ y ∧ y ≤ 99 := by simp [chOk, inB_iff, and_assoc]
def chargesOk (xs : List (Int × Int)) : Bool := decide (xs.length ≤ 8) && xs.all chOk
def furnOk (r p : Int) : Bool := inB r 1 8 && inB p 0 99
theorem furnOk_iff {r p : Int} : furnOk r p = true ↔ 1 ≤ r ∧ r ≤ 8 ∧ 0 ≤ p ∧ p ≤ 99 := by simp [furnOk, inB_iff, and_assoc]

theorem all_take_succ {α : Type} {p : α → Bool} {xs : List α} {k : Nat} {q : α} (h : xs[k]? = some q) : (xs.take (k + 1)).all p = ((xs.take k).all p && p q) := by
  rw [List.take_add_one, h]; simp [List.all_append]
theorem all_false_of {α : Type} {p : α → Bool} {xs : List α} {k : Nat} {q : α} (h : xs[k]? = some q) (hp : p q = false) : xs.all p = false := by
  rw [List.all_eq_false]
  exact ⟨q, List.mem_of_getElem? h, by simp [hp]⟩
theorem chargesOk_get {xs : List (Int × Int)} (h : chargesOk xs = true) {k : Nat} {x y : Int} (hk : xs[k]? = some (x, y)) : 0 ≤ x ∧ x ≤ 999 ∧ 1 ≤ y ∧ y ≤ 99 := by
  simp only [chargesOk, Bool.and_eq_true, List.all_eq_true] at h
  exact chOk_iff.1 (h.2 _ (List.mem_of_getElem? hk))
theorem chargesOk_len {xs : List (Int × Int)} (h : chargesOk xs = true) : xs.length ≤ 8 := by
  simp only [chargesOk, Bool.and_eq_true, decide_eq_true_eq] at h; exact h.1
theorem chargesOk_long {xs : List (Int × Int)} (h : 8 < xs.length) : chargesOk xs = false := by simp [chargesOk]; omega
theorem chargesOk_bad {xs : List (Int × Int)} {k : Nat} {q : Int × Int} (h : xs[k]? = some q) (hp : chOk q = false) : chargesOk xs = false := by simp [chargesOk, all_false_of h hp]
theorem chargesOk_mk {xs : List (Int × Int)} (h : xs.length ≤ 8) (ha : xs.all chOk = true) : chargesOk xs = true := by simp [chargesOk, h, ha]
end Go.Proofs.YtiddlpgpbafdmaaDoor
