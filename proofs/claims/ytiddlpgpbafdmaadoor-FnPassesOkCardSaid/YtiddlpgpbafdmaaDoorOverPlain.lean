/- Plain law: how much longer slabs stay, and how many are inside. -/
import Derived.Test.YtiddlpgpbafdmaaDoorOkPlain
namespace Go.Proofs.YtiddlpgpbafdmaaDoor
set_option linter.unusedVariables false
def overTo (xs ys : List (Int × Int)) : Nat → Int
  | 0 => 0
  | k + 1 => overTo xs ys k + (match xs[k]?, ys[k]? with | some x, some y => y.2 - y.1 - x.2 | _, _ => 0)
def passOver (xs : List (Int × Int)) (r p : Int) (ys : List (Int × Int)) : Int := if passesOk xs r p ys then overTo xs ys xs.length else -1
theorem passOver_no {xs ys : List (Int × Int)} {r p : Int} (h : passesOk xs r p ys = false) : passOver xs r p ys = -1 := by simp only [passOver, h]; rfl
theorem passOver_ok {xs ys : List (Int × Int)} {r p : Int} (h : passesOk xs r p ys = true) : passOver xs r p ys = overTo xs ys xs.length := by simp only [passOver, h]; rfl
theorem overTo_succ {xs ys : List (Int × Int)} {k : Nat} {x1 x2 y1 y2 : Int} (hx : xs[k]? = some (x1, x2)) (hy : ys[k]? = some (y1, y2)) : overTo xs ys (k + 1) = overTo xs ys k + (y2 - y1 - x2) := by simp [overTo, hx, hy]
/-- what valid times say -/
theorem passesOk_facts {xs ys : List (Int × Int)} {r p : Int} (h : passesOk xs r p ys = true) : xs.length ≤ 8 ∧ ys.length = xs.length ∧ ∀ (k : Nat) (x1 x2 y1 y2 : Int), xs[k]? = some (x1, x2) → ys[k]? = some (y1, y2) → 1 ≤ x2 ∧ x2 ≤ 99 ∧ 0 ≤ y1 ∧ y1 ≤ 9999 ∧ 0 ≤ y2 ∧ y2 ≤ 9999 := by
  simp only [passesOk, Bool.and_eq_true] at h
  obtain ⟨h1, _, h3⟩ := h
  simp only [timesOk, Bool.and_eq_true, decide_eq_true_eq] at h3
  refine ⟨chargesOk_len h1, h3.1, fun k x1 x2 y1 y2 hx hy => ?_⟩
  have a := chargesOk_get h1 hx
  have b := okAt_bounds (okAt_range h3.2 (List.getElem?_eq_some_iff.1 hx).1) hy
  omega
theorem overTo_bounds {xs ys : List (Int × Int)} {r p : Int} (h : passesOk xs r p ys = true) (k : Nat) (hk : k ≤ xs.length) : -20000 * (k : Int) ≤ overTo xs ys k ∧ overTo xs ys k ≤ 10000 * (k : Int) := by
  obtain ⟨h8, hl, hf⟩ := passesOk_facts h
  induction k with
  | zero => simp [overTo]
  | succ k ih =>
    obtain ⟨⟨x1, x2⟩, hx⟩ : ∃ q, xs[k]? = some q := ⟨_, List.getElem?_eq_getElem (by omega)⟩
    obtain ⟨⟨y1, y2⟩, hy⟩ : ∃ q, ys[k]? = some q := ⟨_, List.getElem?_eq_getElem (by omega)⟩
    have := hf k x1 x2 y1 y2 hx hy
    have := ih (by omega)
    rw [overTo_succ hx hy]
    omega
def inAt (t : Int) (q : Int × Int) : Bool := decide (q.1 ≤ t) && decide (t < q.2)
theorem inAt_yes {t y1 y2 : Int} (h1 : y1 ≤ t) (h2 : t < y2) : inAt t (y1, y2) = true := by simp [inAt, h1, h2]
theorem inAt_no {t y1 y2 : Int} (h : ¬ (y1 ≤ t ∧ t < y2)) : ¬ inAt t (y1, y2) = true := by simp [inAt]; omega
def inCnt (t : Int) (ys : List (Int × Int)) : Int := (ys.countP (inAt t) : Nat)
theorem inCnt_take {t : Int} {ys : List (Int × Int)} {k : Nat} {q : Int × Int} (h : ys[k]? = some q) : inCnt t (ys.take (k + 1)) = inCnt t (ys.take k) + (if inAt t q then 1 else 0) := by
  unfold inCnt
  rw [List.take_add_one, h, Option.toList_some, List.countP_append, List.countP_singleton]
  split <;> simp
theorem inCnt_bounds (t : Int) (ys : List (Int × Int)) (k : Nat) : 0 ≤ inCnt t (ys.take k) ∧ inCnt t (ys.take k) ≤ k := by
  unfold inCnt
  have h1 := List.countP_le_length (p := inAt t) (l := ys.take k)
  have h2 : (ys.take k).length ≤ k := List.length_take_le _ _
  omega
def passInside (xs : List (Int × Int)) (r p : Int) (ys : List (Int × Int)) (t : Int) : Int := if passesOk xs r p ys then inCnt t ys else 0
/-- in a round's head: it is the first one, or the times are valid -/
def OkSeen (xs : List (Int × Int)) (r p : Int) (ys : List (Int × Int)) (k : Nat) : Prop := k = 0 ∨ passesOk xs r p ys = true
theorem passInside_no {xs ys : List (Int × Int)} {r p t : Int} (h : passesOk xs r p ys = false) : passInside xs r p ys t = 0 := by simp only [passInside, h]; rfl
theorem passInside_ok {xs ys : List (Int × Int)} {r p t : Int} (h : passesOk xs r p ys = true) : passInside xs r p ys t = inCnt t ys := by simp only [passInside, h]; rfl
end Go.Proofs.YtiddlpgpbafdmaaDoor
