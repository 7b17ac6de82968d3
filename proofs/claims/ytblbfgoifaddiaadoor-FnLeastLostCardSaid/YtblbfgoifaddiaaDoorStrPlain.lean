/- Plain law: lists of strands: when they are right, and how many different strands they have. -/
import Derived.Test.YtblbfgoifaddiaaDoorCutPlain
namespace Go.Proofs.YtblbfgoifaddiaaDoor
set_option linter.unusedVariables false
/-- what the first k wants that stand on strand s are together -/
def sumAt (ws ps : List Int) (s : Int) : Nat → Int
  | 0 => 0
  | k + 1 => sumAt ws ps s k + (match ws[k]?, ps[k]? with | some w, some p => if p = s then w else 0 | _, _ => 0)
theorem sumAt_hit {ws ps : List Int} {s w : Int} {k : Nat} (hw : ws[k]? = some w) (hp : ps[k]? = some s) : sumAt ws ps s (k + 1) = sumAt ws ps s k + w := by simp [sumAt, hw, hp]
theorem sumAt_miss {ws ps : List Int} {s w p : Int} {k : Nat} (hw : ws[k]? = some w) (hp : ps[k]? = some p) (h : p ≠ s) : sumAt ws ps s (k + 1) = sumAt ws ps s k := by simp [sumAt, hw, hp, h]
theorem wantsOk_get {ws : List Int} {long : Int} (h : wantsOk ws long = true) {k : Nat} {x : Int} (hx : ws[k]? = some x) : 1 ≤ x ∧ x ≤ long := by
  simp only [wantsOk, Bool.and_eq_true, List.all_eq_true] at h
  exact inB_iff.1 (h.2.2 x (List.mem_of_getElem? hx))
theorem wantsOk_len {ws : List Int} {long : Int} (h : wantsOk ws long = true) : ws.length ≤ 8 ∧ 1 ≤ long ∧ long ≤ 60 := by
  simp only [wantsOk, Bool.and_eq_true, decide_eq_true_eq] at h
  exact ⟨h.1, (inB_iff.1 h.2.1).1, (inB_iff.1 h.2.1).2⟩
theorem sumAt_mono {ws ps : List Int} {s long : Int} (h : wantsOk ws long = true) (k : Nat) : ∀ m, k ≤ m → sumAt ws ps s k ≤ sumAt ws ps s m := by
  intro m hm
  induction m with
  | zero => have : k = 0 := by omega
            subst this; exact Int.le_refl _
  | succ m ih =>
    by_cases e : k = m + 1
    · subst e; exact Int.le_refl _
    · have := ih (by omega)
      rw [sumAt]
      cases hw : ws[m]? with
      | none => simp; exact this
      | some w =>
        have := (wantsOk_get h hw).1
        cases hp : ps[m]? with
        | none => simp; omega
        | some p => simp only; split <;> omega
theorem sumAt_bounds {ws ps : List Int} {s long : Int} (h : wantsOk ws long = true) (k : Nat) : 0 ≤ sumAt ws ps s k ∧ sumAt ws ps s k ≤ 60 * (k : Int) := by
  induction k with
  | zero => simp [sumAt]
  | succ k ih =>
    rw [sumAt]
    cases hw : ws[k]? with
    | none => simp; omega
    | some w =>
      have := wantsOk_get h hw
      have := wantsOk_len h
      cases hp : ps[k]? with
      | none => simp; omega
      | some p => simp only; split <;> omega
def strandsOk (ws : List Int) (long : Int) (ps : List Int) : Bool :=
  wantsOk ws long && (decide (ps.length = ws.length) && ((ps.all fun p => inB p 0 ((ws.length : Int) - 1)) && (List.range ws.length).all fun (s : Nat) => decide (sumAt ws ps (s : Int) ws.length ≤ long)))
theorem strandsOk_1 {ws ps : List Int} {long : Int} (h : wantsOk ws long = false) : strandsOk ws long ps = false := by simp [strandsOk, h]
theorem strandsOk_2 {ws ps : List Int} {long : Int} (h : ps.length ≠ ws.length) : strandsOk ws long ps = false := by simp [strandsOk, h]
theorem strandsOk_3 {ws ps : List Int} {long p : Int} {k : Nat} (hp : ps[k]? = some p) (h : inB p 0 ((ws.length : Int) - 1) = false) : strandsOk ws long ps = false := by
  have := allI_bad (p := fun p => inB p 0 ((ws.length : Int) - 1)) hp h
  simp only [strandsOk, this, Bool.false_and, Bool.and_false]
theorem strandsOk_4 {ws ps : List Int} {long : Int} {s : Nat} (hs : s < ws.length) (h : long < sumAt ws ps (s : Int) ws.length) : strandsOk ws long ps = false := by
  have : ((List.range ws.length).all fun (s : Nat) => decide (sumAt ws ps (s : Int) ws.length ≤ long)) = false := by
    rw [List.all_eq_false]; exact ⟨s, List.mem_range.2 hs, by simp; omega⟩
  simp only [strandsOk, this, Bool.and_false]
theorem strandsOk_mk {ws ps : List Int} {long : Int} (h1 : wantsOk ws long = true) (h2 : ps.length = ws.length) (h3 : (ps.all fun p => inB p 0 ((ws.length : Int) - 1)) = true) (h4 : ∀ s : Nat, s < ws.length → sumAt ws ps (s : Int) ws.length ≤ long) : strandsOk ws long ps = true := by
  have : ((List.range ws.length).all fun (s : Nat) => decide (sumAt ws ps (s : Int) ws.length ≤ long)) = true := by
    rw [List.all_eq_true]; intro s hs; have := h4 s (List.mem_range.1 hs); simp; omega
  simp only [strandsOk, h1, h3, this, h2, decide_true, Bool.and_self]
theorem strandsOk_facts {ws ps : List Int} {long : Int} (h : strandsOk ws long ps = true) : wantsOk ws long = true ∧ ps.length = ws.length ∧ (∀ (k : Nat) (p : Int), ps[k]? = some p → 0 ≤ p ∧ p < ws.length) ∧ ∀ s : Nat, s < ws.length → sumAt ws ps (s : Int) ws.length ≤ long := by
  simp only [strandsOk, Bool.and_eq_true, decide_eq_true_eq, List.all_eq_true] at h
  refine ⟨h.1, h.2.1, fun k p hp => ?_, fun s hs => h.2.2.2 s (List.mem_range.2 hs)⟩
  have := inB_iff.1 (h.2.2.1 p (List.mem_of_getElem? hp)); omega
/-- the sums of all strands behind k wants -/
def cutRow (ws ps : List Int) (n k : Nat) : List Int := (List.range n).map fun (s : Nat) => sumAt ws ps (s : Int) k
theorem cutRow_zero (ws ps : List Int) (n : Nat) : cutRow ws ps n 0 = List.replicate n 0 := by
  apply List.ext_getElem?
  intro i
  by_cases h : i < n
  · simp [cutRow, sumAt, h]
  · simp [cutRow, h]
theorem cutRow_get {ws ps : List Int} {n k s : Nat} (h : s < n) : (cutRow ws ps n k)[s]? = some (sumAt ws ps (s : Int) k) := by simp [cutRow, h]
theorem cutRow_succ {ws ps : List Int} {n k s : Nat} {w : Int} (hw : ws[k]? = some w) (hp : ps[k]? = some (s : Int)) : cutRow ws ps n (k + 1) = (cutRow ws ps n k).set s (sumAt ws ps (s : Int) k + w) := by
  apply List.ext_getElem?
  intro i
  by_cases hi : i < n
  · rw [cutRow_get hi, List.getElem?_set]
    by_cases e : s = i
    · subst e
      rw [if_pos rfl, if_pos (by simpa [cutRow] using hi), sumAt_hit hw hp]
    · rw [if_neg e, cutRow_get hi, sumAt_miss hw hp (by omega)]
  · have h1 : (cutRow ws ps n (k + 1)).length ≤ i := by simp [cutRow]; omega
    have h2 : ((cutRow ws ps n k).set s (sumAt ws ps (s : Int) k + w)).length ≤ i := by simp [cutRow]; omega
    rw [List.getElem?_eq_none h1, List.getElem?_eq_none h2]
/-- how many different strands stand at the first k places -/
def manyTo (ps : List Int) : Nat → Int
  | 0 => 0
  | k + 1 => manyTo ps k + (match ps[k]? with | some p => if hasI (ps.take k) p then 0 else 1 | none => 0)
theorem manyTo_old {ps : List Int} {k : Nat} {p : Int} (hp : ps[k]? = some p) (h : hasI (ps.take k) p = true) : manyTo ps (k + 1) = manyTo ps k := by simp only [manyTo, hp, h, if_true]; omega
theorem manyTo_new {ps : List Int} {k : Nat} {p : Int} (hp : ps[k]? = some p) (h : hasI (ps.take k) p = false) : manyTo ps (k + 1) = manyTo ps k + 1 := by simp only [manyTo, hp, h]; rfl
theorem manyTo_bounds (ps : List Int) (k : Nat) : 0 ≤ manyTo ps k ∧ manyTo ps k ≤ k := by
  induction k with
  | zero => simp [manyTo]
  | succ k ih =>
    rw [manyTo]
    split
    · split <;> omega
    · omega
def strandsMany (ws : List Int) (long : Int) (ps : List Int) : Int := if strandsOk ws long ps then manyTo ps ps.length else -1
theorem strandsMany_no {ws ps : List Int} {long : Int} (h : strandsOk ws long ps = false) : strandsMany ws long ps = -1 := by simp [strandsMany, h]
theorem strandsMany_ok {ws ps : List Int} {long : Int} (h : strandsOk ws long ps = true) : strandsMany ws long ps = manyTo ps ps.length := by simp [strandsMany, h]
end Go.Proofs.YtblbfgoifaddiaaDoor
