/- Plain law: valid lengths without the first one, and with the first one once more. -/
import Derived.Test.YtcegmlogjbnoeaaDoorCutFn
import Derived.Test.YtcegmlogjbnoeaaDoorStrPlain
namespace Go.Proofs.YtcegmlogjbnoeaaDoor
set_option linter.unusedVariables false
theorem lengthsOk_tail {x l : Int} {r : List Int} (h : lengthsOk (x :: l :: r) = true) : lengthsOk (l :: r) = true := by
  have hl := lengthsOk_len h
  have hx := lengthsOk_get h (k := 0) (x := x) rfl
  simp only [lengthsOk, Bool.and_eq_true, List.all_eq_true] at h
  have ha := fun k hk => h.2 k (List.mem_range.2 hk)
  simp only [List.length_cons] at hl ha
  refine lengthsOk_mk (inB_true (by simp; omega) (by simp; omega)) ?_
  rw [List.all_eq_true]
  intro k hk
  have hk := List.mem_range.1 hk
  simp only [List.length_cons] at hk
  have h1 := ha (k + 1) (by omega)
  cases k with
  | zero =>
    rw [ascAt_succ (m := 0) (l := x) (x := l) rfl rfl] at h1
    rw [ascAt_zero (x := l) rfl]
    have := inB_iff.1 h1
    exact inB_true (by omega) (by omega)
  | succ m =>
    obtain ⟨u, hu⟩ : ∃ u, (l :: r)[m]? = some u := ⟨_, List.getElem?_eq_getElem (by simp; omega)⟩
    obtain ⟨v, hv⟩ : ∃ v, (l :: r)[m + 1]? = some v := ⟨_, List.getElem?_eq_getElem (by simp; omega)⟩
    rw [ascAt_succ (m := m + 1) (l := u) (x := v) (by simpa using hu) (by simpa using hv)] at h1
    rw [ascAt_succ hu hv]; exact h1
theorem lengthsOk_again {ls : List Int} {x : Int} (h : lengthsOk ls = true) (h0 : ls[0]? = some x) : lengthsOk (ls ++ [x]) = false := by
  have hl := lengthsOk_len h
  obtain ⟨m, hm⟩ : ∃ m, ls.length = m + 1 := ⟨ls.length - 1, by omega⟩
  obtain ⟨l, hlast⟩ : ∃ l, ls[m]? = some l := ⟨_, List.getElem?_eq_getElem (by omega)⟩
  have h1 := ls_first h h0 hlast
  refine lengthsOk_bad (k := m + 1) (by simp; omega) ?_
  rw [ascAt_succ (l := l) (x := x) (by rw [List.getElem?_append_left (by omega)]; exact hlast) (by rw [List.getElem?_append_right (by omega), hm, Nat.sub_self]; rfl)]
  exact inB_false (by omega)
theorem lengthsOk_nil : lengthsOk [] = false := by decide
theorem wantsOk_over (long : Int) : wantsOk [long + 1] long = false := wantsOk_bad (k := 0) (q := long + 1) rfl (inB_false (by omega))
end Go.Proofs.YtcegmlogjbnoeaaDoor
