/- Plain law: slabs shared between two furnaces. -/
import Derived.Test.YtiddlpgpbafdmaaDoorEndPlain
import Derived.Test.YtiddlpgpbafdmaaDoorBits
namespace Go.Proofs.YtiddlpgpbafdmaaDoor
set_option linter.unusedVariables false
/-- those of the first k slabs whose bits are b -/
def selTo (xs : List (Int × Int)) (s b : Int) : Nat → List (Int × Int)
  | 0 => []
  | k + 1 => match xs[k]? with | some q => if bitI s k = b then selTo xs s b k ++ [q] else selTo xs s b k | none => selTo xs s b k
section
variable {xs : List (Int × Int)} {s b : Int} {k : Nat} {x y : Int}
theorem selTo_yes (h : xs[k]? = some (x, y)) (hb : bitI s k = b) : selTo xs s b (k + 1) = selTo xs s b k ++ [(x, y)] := by simp [selTo, h, hb]
theorem selTo_no (h : xs[k]? = some (x, y)) (hb : ¬ bitI s k = b) : selTo xs s b (k + 1) = selTo xs s b k := by simp [selTo, h, hb]
theorem selTo_len (xs : List (Int × Int)) (s b : Int) (k : Nat) : (selTo xs s b k).length ≤ k := by
  induction k with
  | zero => simp [selTo]
  | succ k ih =>
    simp only [selTo]
    split
    · split
      · simp; omega
      · omega
    · omega
theorem selTo_mem : ∀ q ∈ selTo xs s b k, q ∈ xs := by
  induction k with
  | zero => intro q hq; simp [selTo] at hq
  | succ k ih =>
    intro q hq
    simp only [selTo] at hq
    split at hq
    · rename_i p hp
      split at hq
      · rw [List.mem_append, List.mem_singleton] at hq
        rcases hq with hq | rfl
        · exact ih q hq
        · exact List.mem_of_getElem? hp
      · exact ih q hq
    · exact ih q hq
theorem selTo_charges (h : chargesOk xs = true) (hk : k ≤ xs.length) : chargesOk (selTo xs s b k) = true := by
  have h8 := chargesOk_len h
  have := selTo_len xs s b k
  refine chargesOk_mk (by omega) ?_
  rw [List.all_eq_true]
  intro q hq
  simp only [chargesOk, Bool.and_eq_true, List.all_eq_true] at h
  exact h.2 q (selTo_mem q hq)
end
def splitEnd (xs : List (Int × Int)) (r p s : Int) : Int := if chargesOk xs && (furnOk r p && inB s 0 (2 ^ xs.length - 1)) then mx (passEnd (selTo xs s 0 xs.length) r p) (passEnd (selTo xs s 1 xs.length) r p) else -1
section
variable {xs : List (Int × Int)} {r p s : Int}
theorem splitEnd_1 (h : chargesOk xs = false) : splitEnd xs r p s = -1 := by simp [splitEnd, h]
theorem splitEnd_2 (h : furnOk r p = false) : splitEnd xs r p s = -1 := by simp [splitEnd, h]
theorem splitEnd_3 {n : Nat} (hn : xs.length = n) (h : inB s 0 (2 ^ n - 1) = false) : splitEnd xs r p s = -1 := by subst hn; simp [splitEnd, h]
theorem splitEnd_4 {n : Nat} (hn : xs.length = n) (h1 : chargesOk xs = true) (h2 : furnOk r p = true) (h : inB s 0 (2 ^ n - 1) = true) : splitEnd xs r p s = mx (passEnd (selTo xs s 0 n) r p) (passEnd (selTo xs s 1 n) r p) := by subst hn; simp [splitEnd, h, h1, h2]
theorem splitEnd_lt {n : Nat} (hn : xs.length = n) (h1 : chargesOk xs = true) (h2 : furnOk r p = true) (h : inB s 0 (2 ^ n - 1) = true) (hlt : passEnd (selTo xs s 0 n) r p < passEnd (selTo xs s 1 n) r p) : splitEnd xs r p s = passEnd (selTo xs s 1 n) r p := by rw [splitEnd_4 hn h1 h2 h, mx, if_pos hlt]
theorem splitEnd_ge {n : Nat} (hn : xs.length = n) (h1 : chargesOk xs = true) (h2 : furnOk r p = true) (h : inB s 0 (2 ^ n - 1) = true) (hlt : ¬ passEnd (selTo xs s 0 n) r p < passEnd (selTo xs s 1 n) r p) : splitEnd xs r p s = passEnd (selTo xs s 0 n) r p := by rw [splitEnd_4 hn h1 h2 h, mx, if_neg hlt]
end
/-- the least of the first k sets that is best -/
def bestSet (xs : List (Int × Int)) (r p : Int) : Nat → Nat
  | 0 => 0
  | k + 1 => if splitEnd xs r p k < splitEnd xs r p (bestSet xs r p k) then k else bestSet xs r p k
theorem bestSet_one (xs : List (Int × Int)) (r p : Int) : bestSet xs r p 1 = 0 := by simp [bestSet]
theorem bestSet_yes {xs : List (Int × Int)} {r p : Int} {k : Nat} (h : splitEnd xs r p k < splitEnd xs r p (bestSet xs r p k)) : bestSet xs r p (k + 1) = k := by simp [bestSet, h]
theorem bestSet_no {xs : List (Int × Int)} {r p : Int} {k : Nat} (h : ¬ splitEnd xs r p k < splitEnd xs r p (bestSet xs r p k)) : bestSet xs r p (k + 1) = bestSet xs r p k := by simp [bestSet, h]
theorem bestSet_lt (xs : List (Int × Int)) (r p : Int) (k : Nat) : bestSet xs r p (k + 1) ≤ k := by
  induction k with
  | zero => simp [bestSet]
  | succ k ih => rw [bestSet]; split <;> omega
def splitBest (xs : List (Int × Int)) (r p : Int) : Int := if chargesOk xs && furnOk r p then (bestSet xs r p (2 ^ xs.length) : Nat) else -1
theorem splitBest_1 {xs : List (Int × Int)} {r p : Int} (h : chargesOk xs = false) : splitBest xs r p = -1 := by simp [splitBest, h]
theorem splitBest_2 {xs : List (Int × Int)} {r p : Int} (h : furnOk r p = false) : splitBest xs r p = -1 := by simp [splitBest, h]
theorem splitBest_3 {xs : List (Int × Int)} {r p : Int} {n : Nat} (hn : xs.length = n) (h : chargesOk xs = true) (h2 : furnOk r p = true) : splitBest xs r p = (bestSet xs r p (2 ^ n) : Nat) := by subst hn; simp [splitBest, h, h2]
end Go.Proofs.YtiddlpgpbafdmaaDoor
