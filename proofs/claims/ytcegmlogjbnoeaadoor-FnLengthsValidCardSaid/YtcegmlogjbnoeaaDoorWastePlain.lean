/- Plain law: what 'CutWaste' returns. -/
import Derived.Test.YtcegmlogjbnoeaaDoorCutPlain
namespace Go.Proofs.YtcegmlogjbnoeaaDoor
set_option linter.unusedVariables false
/-- what is left when slab after slab is cut off; -1 if that is not possible -/
def cwGo : Int → List Int → List Int → Int
  | left, l :: ls, m :: ms => if 0 ≤ m ∧ m * l ≤ left then cwGo (left - m * l) ls ms else -1
  | left, _, _ => left
def cutWaste (long : Int) (ls ms : List Int) : Int := if inB long 0 60 && (lengthsOk ls && decide (ms.length = ls.length)) then cwGo long ls ms else -1
theorem cutWaste_1 {long : Int} {ls ms : List Int} (h : inB long 0 60 = false) : cutWaste long ls ms = -1 := by simp [cutWaste, h]
theorem cutWaste_2 {long : Int} {ls ms : List Int} (h : lengthsOk ls = false) : cutWaste long ls ms = -1 := by simp [cutWaste, h]
theorem cutWaste_3 {long : Int} {ls ms : List Int} (h : ms.length ≠ ls.length) : cutWaste long ls ms = -1 := by simp [cutWaste, h]
theorem cutWaste_4 {long : Int} {ls ms : List Int} (h1 : inB long 0 60 = true) (h2 : lengthsOk ls = true) (h3 : ms.length = ls.length) : cutWaste long ls ms = cwGo long ls ms := by simp [cutWaste, h1, h2, h3]
theorem lengthsOk_get {xs : List Int} (h : lengthsOk xs = true) {k : Nat} {x : Int} (hx : xs[k]? = some x) : 1 ≤ x ∧ x ≤ 60 := by
  simp only [lengthsOk, Bool.and_eq_true] at h
  have hk := (List.getElem?_eq_some_iff.1 hx).1
  exact asc_bounds (fun i hi => allR_at h.2 (by omega)) hx
theorem lengthsOk_len {xs : List Int} (h : lengthsOk xs = true) : 1 ≤ xs.length ∧ xs.length ≤ 4 := by
  simp only [lengthsOk, Bool.and_eq_true, inB_iff] at h
  omega
theorem drop_get {xs : List Int} {k : Nat} {x : Int} (h : xs[k]? = some x) : xs.drop k = x :: xs.drop (k + 1) := by
  obtain ⟨hk, rfl⟩ := List.getElem?_eq_some_iff.1 h
  exact List.drop_eq_getElem_cons hk
theorem cwGo_step {left l m : Int} {ls ms : List Int} {k : Nat} (hl : ls[k]? = some l) (hm : ms[k]? = some m) (h : 0 ≤ m ∧ m * l ≤ left) : cwGo left (ls.drop k) (ms.drop k) = cwGo (left - m * l) (ls.drop (k + 1)) (ms.drop (k + 1)) := by
  rw [drop_get hl, drop_get hm, cwGo, if_pos h]
theorem cwGo_stop {left l m : Int} {ls ms : List Int} {k : Nat} (hl : ls[k]? = some l) (hm : ms[k]? = some m) (h : ¬ (0 ≤ m ∧ m * l ≤ left)) : cwGo left (ls.drop k) (ms.drop k) = -1 := by
  rw [drop_get hl, drop_get hm, cwGo, if_neg h]
theorem cwGo_end {left : Int} {ls ms : List Int} {k : Nat} (h : ms.length ≤ k) : cwGo left (ls.drop k) (ms.drop k) = left := by
  rw [List.drop_of_length_le h]
  cases ls.drop k <;> rfl
theorem mul_bounds {m l : Int} (h0 : 0 ≤ m) (h1 : m ≤ 60) (h2 : 1 ≤ l) (h3 : l ≤ 60) : m ≤ m * l ∧ m * l ≤ 3600 := by
  have a : m * 1 ≤ m * l := Int.mul_le_mul_of_nonneg_left h2 h0
  have b : m * l ≤ 60 * 60 := Int.mul_le_mul h1 h3 (by omega) (by omega)
  omega
/-- the program's loop: it goes on below zero -/
def CwRel (long : Int) (ls ms : List Int) (k : Nat) (waste : Int) : Prop := (0 ≤ waste ∧ cwGo waste (ls.drop k) (ms.drop k) = cwGo long ls ms) ∨ (waste < 0 ∧ cwGo long ls ms = -1)
theorem CwRel.bad {long waste l m : Int} {ls ms : List Int} {k : Nat} (h : CwRel long ls ms k waste) (hl : ls[k]? = some l) (hm : ms[k]? = some m) (hw : waste ≤ long) (h1 : 1 ≤ l) (hb : inB m 0 long = false) : cwGo long ls ms = -1 := by
  rcases h with ⟨h0, h⟩ | ⟨_, h⟩
  · rw [← h, cwGo_stop hl hm]
    intro hh
    have : m ≤ m * l := by have := Int.mul_le_mul_of_nonneg_left h1 hh.1; omega
    have := inB_true (n := m) (l := 0) (h := long) hh.1 (by omega)
    rw [hb] at this; cases this
  · exact h
theorem CwRel.next {long waste l m : Int} {ls ms : List Int} {k : Nat} (h : CwRel long ls ms k waste) (hl : ls[k]? = some l) (hm : ms[k]? = some m) (h0 : 0 ≤ m) (h1 : 1 ≤ l) : CwRel long ls ms (k + 1) (waste - m * l) := by
  have hml : 0 ≤ m * l := Int.mul_nonneg h0 (by omega)
  rcases h with ⟨hw, h⟩ | ⟨hw, h⟩
  · by_cases hc : m * l ≤ waste
    · exact .inl ⟨by omega, by rw [← cwGo_step hl hm ⟨h0, hc⟩, h]⟩
    · exact .inr ⟨by omega, by rw [← h, cwGo_stop hl hm (by omega)]⟩
  · exact .inr ⟨by omega, h⟩
theorem CwRel.fin {long waste : Int} {ls ms : List Int} {k : Nat} (h : CwRel long ls ms k waste) (hk : ms.length ≤ k) : (if waste < -1 then -1 else waste) = cwGo long ls ms := by
  rcases h with ⟨hw, h⟩ | ⟨hw, h⟩
  · rw [← h, cwGo_end hk, if_neg (by omega)]
  · rw [h]; split <;> omega
end Go.Proofs.YtcegmlogjbnoeaaDoor
