/- Plain law: the table of the least waste of each length. -/
import Derived.Test.YtcegmlogjbnoeaaDoorWastePlain
namespace Go.Proofs.YtcegmlogjbnoeaaDoor
set_option linter.unusedVariables false
/-- the least waste of length n when the first k lengths have been looked at; T: the table of the smaller ones -/
def bestOf (ls T : List Int) (n : Nat) : Nat → Int
  | 0 => n
  | k + 1 => match ls[k]? with
    | some l => if l ≤ n then min (bestOf ls T n k) (T.getD (n - l.toNat) 0) else bestOf ls T n k
    | none => bestOf ls T n k
def table (ls : List Int) : Nat → List Int
  | 0 => []
  | n + 1 => table ls n ++ [bestOf ls (table ls n) n ls.length]
theorem table_length (ls : List Int) (n : Nat) : (table ls n).length = n := by
  induction n with
  | zero => rfl
  | succ n ih => simp [table, ih]
theorem bestOf_skip {ls T : List Int} {n k : Nat} {l : Int} (h : ls[k]? = some l) (hl : ¬ l ≤ n) : bestOf ls T n (k + 1) = bestOf ls T n k := by simp [bestOf, h, hl]
theorem bestOf_take {ls T : List Int} {n k : Nat} {l v : Int} (h : ls[k]? = some l) (hl : l ≤ n) (hv : T[n - l.toNat]? = some v) : bestOf ls T n (k + 1) = min (bestOf ls T n k) v := by simp [bestOf, h, hl, hv, List.getD_eq_getElem?_getD]
theorem table_bounds {ls : List Int} (h1 : ∀ (k : Nat) (l : Int), ls[k]? = some l → 1 ≤ l) (n : Nat) : ∀ (j : Nat) (v : Int), (table ls n)[j]? = some v → 0 ≤ v ∧ v ≤ j := by
  have bb : ∀ (T : List Int) (n : Nat), T.length = n → (∀ (j : Nat) (v : Int), T[j]? = some v → 0 ≤ v ∧ v ≤ j) → ∀ k, 0 ≤ bestOf ls T n k ∧ bestOf ls T n k ≤ n := by
    intro T n hT hb k
    induction k with
    | zero => simp [bestOf]
    | succ k ih =>
      cases hl : ls[k]? with
      | none => simp only [bestOf, hl]; exact ih
      | some l =>
        have := h1 k l hl
        by_cases hle : l ≤ n
        · obtain ⟨v, hv⟩ : ∃ v, T[n - l.toNat]? = some v := ⟨_, List.getElem?_eq_getElem (by omega)⟩
          rw [bestOf_take hl hle hv]
          have := hb _ v hv
          omega
        · rw [bestOf_skip hl hle]; exact ih
  induction n with
  | zero => intro j v h; simp [table] at h
  | succ n ih =>
    intro j v h
    rw [table] at h
    by_cases hj : j < n
    · rw [List.getElem?_append_left (by rw [table_length]; exact hj)] at h
      exact ih j v h
    · have hlt := (List.getElem?_eq_some_iff.1 h).1
      simp only [List.length_append, table_length, List.length_singleton] at hlt
      obtain rfl : j = n := by omega
      rw [List.getElem?_append_right (by rw [table_length]; exact Nat.le_refl _), table_length, Nat.sub_self] at h
      simp only [List.getElem?_cons_zero, Option.some.injEq] at h
      rw [← h]
      exact bb _ _ (table_length _ _) ih _
theorem bestOf_bounds {ls : List Int} (h1 : ∀ (k : Nat) (l : Int), ls[k]? = some l → 1 ≤ l) (n k : Nat) : 0 ≤ bestOf ls (table ls n) n k ∧ bestOf ls (table ls n) n k ≤ n := by
  induction k with
  | zero => simp [bestOf]
  | succ k ih =>
    cases hl : ls[k]? with
    | none => simp only [bestOf, hl]; exact ih
    | some l =>
      have := h1 k l hl
      by_cases hle : l ≤ n
      · obtain ⟨v, hv⟩ : ∃ v, (table ls n)[n - l.toNat]? = some v := ⟨_, List.getElem?_eq_getElem (by rw [table_length]; omega)⟩
        rw [bestOf_take hl hle hv]
        have := table_bounds h1 n _ v hv
        omega
      · rw [bestOf_skip hl hle]; exact ih
def cutLeast (long : Int) (ls : List Int) : Int := if inB long 0 60 && lengthsOk ls then (table ls (long.toNat + 1)).getD long.toNat 0 else -1
theorem cutLeast_1 {long : Int} {ls : List Int} (h : inB long 0 60 = false) : cutLeast long ls = -1 := by simp [cutLeast, h]
theorem cutLeast_2 {long : Int} {ls : List Int} (h : lengthsOk ls = false) : cutLeast long ls = -1 := by simp [cutLeast, h]
theorem cutLeast_3 {N : Nat} {ls : List Int} {v : Int} (h : inB (N : Int) 0 60 = true) (h2 : lengthsOk ls = true) (hv : (table ls (N + 1))[N]? = some v) : cutLeast N ls = v := by
  simp [cutLeast, h, h2, List.getD_eq_getElem?_getD, hv]
end Go.Proofs.YtcegmlogjbnoeaaDoor
