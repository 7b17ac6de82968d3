/- Plain law: the good parts of a strand. -/
import Derived.Test.YtcegmlogjbnoeaaDoorBadPlain
namespace Go.Proofs.YtcegmlogjbnoeaaDoor
set_option linter.unusedVariables false
def fromTo (ys : List (Int × Int)) : Nat → Int
  | 0 => 0
  | k + 1 => match ys[k]? with | some q => q.2 | none => fromTo ys k
def partsTo (ys : List (Int × Int)) : Nat → List (Int × Int)
  | 0 => []
  | k + 1 => match ys[k]? with | some q => if fromTo ys k < q.1 then partsTo ys k ++ [(fromTo ys k, q.1)] else partsTo ys k | none => partsTo ys k
theorem fromTo_succ {ys : List (Int × Int)} {k : Nat} {x y : Int} (h : ys[k]? = some (x, y)) : fromTo ys (k + 1) = y := by simp [fromTo, h]
theorem partsTo_yes {ys : List (Int × Int)} {k : Nat} {x y : Int} (h : ys[k]? = some (x, y)) (hf : fromTo ys k < x) : partsTo ys (k + 1) = partsTo ys k ++ [(fromTo ys k, x)] := by simp [partsTo, h, hf]
theorem partsTo_no {ys : List (Int × Int)} {k : Nat} {x y : Int} (h : ys[k]? = some (x, y)) (hf : ¬ fromTo ys k < x) : partsTo ys (k + 1) = partsTo ys k := by simp [partsTo, h, hf]
def goodParts (long : Int) (ys : List (Int × Int)) : List (Int × Int) := if badOk long ys then (if fromTo ys ys.length < long then partsTo ys ys.length ++ [(fromTo ys ys.length, long)] else partsTo ys ys.length) else []
theorem goodParts_no {long : Int} {ys : List (Int × Int)} (h : badOk long ys = false) : goodParts long ys = [] := by simp only [goodParts, h]; rfl
theorem goodParts_more {long : Int} {ys : List (Int × Int)} (h : badOk long ys = true) (hf : fromTo ys ys.length < long) : goodParts long ys = partsTo ys ys.length ++ [(fromTo ys ys.length, long)] := by simp only [goodParts, h]; exact if_pos hf
theorem goodParts_same {long : Int} {ys : List (Int × Int)} (h : badOk long ys = true) (hf : ¬ fromTo ys ys.length < long) : goodParts long ys = partsTo ys ys.length := by simp only [goodParts, h]; exact if_neg hf
theorem badOk_len {long : Int} {ys : List (Int × Int)} (h : badOk long ys = true) : ys.length ≤ 4 := by simp only [badOk, Bool.and_eq_true, decide_eq_true_eq] at h; exact h.2.1
theorem goodParts_len (long : Int) (ys : List (Int × Int)) : (goodParts long ys).length ≤ 1000 := by
  have hp : ∀ k, (partsTo ys k).length ≤ k := by
    intro k
    induction k with
    | zero => simp [partsTo]
    | succ k ih =>
      simp only [partsTo]
      split
      · split
        · simp; omega
        · omega
      · omega
  cases h : badOk long ys
  · rw [goodParts_no h]; simp
  · have h4 := badOk_len h
    have := hp ys.length
    by_cases hf : fromTo ys ys.length < long
    · rw [goodParts_more h hf]; simp; omega
    · rw [goodParts_same h hf]; omega
end Go.Proofs.YtcegmlogjbnoeaaDoor
