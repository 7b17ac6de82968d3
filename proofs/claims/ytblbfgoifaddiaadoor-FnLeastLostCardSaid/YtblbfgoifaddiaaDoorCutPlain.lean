/- Plain law: wanted lengths, wants, bad stretches: when they are valid. -/
import Derived.Test.YtblbfgoifaddiaaDoorInts
namespace Go.Proofs.YtblbfgoifaddiaaDoor
set_option linter.unusedVariables false
theorem allI_take_succ {p : Int → Bool} {xs : List Int} {k : Nat} {q : Int} (h : xs[k]? = some q) : (xs.take (k + 1)).all p = ((xs.take k).all p && p q) := by
  rw [List.take_add_one, h]; simp [List.all_append]
theorem allI_bad {p : Int → Bool} {xs : List Int} {k : Nat} {q : Int} (h : xs[k]? = some q) (hp : p q = false) : xs.all p = false := by
  rw [List.all_eq_false]; exact ⟨q, List.mem_of_getElem? h, by simp [hp]⟩
/-- a list has a number. A plain definition: the walk must not take it apart. -/
def hasI (xs : List Int) (v : Int) : Bool := xs.contains v
/-- wants are valid -/
def wantsOk (xs : List Int) (long : Int) : Bool := decide (xs.length ≤ 8) && (inB long 1 60 && xs.all fun q => inB q 1 long)
theorem wantsOk_long {xs : List Int} {long : Int} (h : 8 < xs.length) : wantsOk xs long = false := by simp [wantsOk]; omega
theorem wantsOk_no {xs : List Int} {long : Int} (h : inB long 1 60 = false) : wantsOk xs long = false := by simp [wantsOk, h]
theorem wantsOk_bad {xs : List Int} {long q : Int} {k : Nat} (h : xs[k]? = some q) (hq : inB q 1 long = false) : wantsOk xs long = false := by
  have := allI_bad (p := fun q => inB q 1 long) h hq
  simp only [wantsOk, this, Bool.and_false]
theorem wantsOk_mk {xs : List Int} {long : Int} (h : xs.length ≤ 8) (h1 : inB long 1 60 = true) (ha : (xs.all fun q => inB q 1 long) = true) : wantsOk xs long = true := by simp only [wantsOk, h1, ha, decide_eq_true h, Bool.and_self]
/-- lengths ascend, each in 1..60 -/
def ascAt (xs : List Int) : Nat → Bool
  | 0 => match xs[0]? with | some x => inB x 1 60 | none => true
  | m + 1 => match xs[m]?, xs[m + 1]? with | some l, some x => inB x (l + 1) 60 | _, _ => true
def lengthsOk (xs : List Int) : Bool := inB xs.length 1 4 && (List.range xs.length).all (ascAt xs)
theorem ascAt_zero {xs : List Int} {x : Int} (h : xs[0]? = some x) : ascAt xs 0 = inB x 1 60 := by simp [ascAt, h]
theorem ascAt_succ {xs : List Int} {m : Nat} {l x : Int} (hl : xs[m]? = some l) (h : xs[m + 1]? = some x) : ascAt xs (m + 1) = inB x (l + 1) 60 := by simp [ascAt, h, hl]
theorem lengthsOk_no {xs : List Int} (h : inB xs.length 1 4 = false) : lengthsOk xs = false := by simp [lengthsOk, h]
theorem lengthsOk_bad {xs : List Int} {k : Nat} (hk : k < xs.length) (h : ascAt xs k = false) : lengthsOk xs = false := by
  have : (List.range xs.length).all (ascAt xs) = false := by
    rw [List.all_eq_false]; exact ⟨k, List.mem_range.2 hk, by simp [h]⟩
  simp [lengthsOk, this]
theorem lengthsOk_mk {xs : List Int} (h : inB xs.length 1 4 = true) (ha : (List.range xs.length).all (ascAt xs) = true) : lengthsOk xs = true := by simp [lengthsOk, h, ha]
theorem allR_succ {f : Nat → Bool} {k : Nat} (h : (List.range k).all f = true) (hk : f k = true) : (List.range (k + 1)).all f = true := by
  rw [List.range_succ, List.all_append, h]; simp [hk]
theorem allR_at {f : Nat → Bool} {k j : Nat} (h : (List.range k).all f = true) (hj : j < k) : f j = true := List.all_eq_true.1 h j (List.mem_range.2 hj)
/-- what has been looked at is in its bounds -/
theorem asc_bounds {xs : List Int} {j : Nat} {x : Int} (h : ∀ i, i ≤ j → ascAt xs i = true) (hx : xs[j]? = some x) : 1 ≤ x ∧ x ≤ 60 := by
  induction j generalizing x with
  | zero => have := h 0 (Nat.le_refl _); rw [ascAt_zero hx] at this; exact inB_iff.1 this
  | succ m ih =>
    have hlt := (List.getElem?_eq_some_iff.1 hx).1
    obtain ⟨l, hl⟩ : ∃ l, xs[m]? = some l := ⟨_, List.getElem?_eq_getElem (by omega)⟩
    have := ih (fun i hi => h i (by omega)) hl
    have h2 := h (m + 1) (Nat.le_refl _)
    rw [ascAt_succ hl hx] at h2
    have := inB_iff.1 h2
    omega
end Go.Proofs.YtblbfgoifaddiaaDoor
