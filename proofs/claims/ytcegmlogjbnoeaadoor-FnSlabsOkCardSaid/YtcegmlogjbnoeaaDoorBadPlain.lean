/- Plain law: bad stretches: when they are valid. -/
import Derived.Test.YtcegmlogjbnoeaaDoorCutPlain
namespace Go.Proofs.YtcegmlogjbnoeaaDoor
set_option linter.unusedVariables false
def lowAt (ys : List (Int × Int)) : Nat → Int
  | 0 => 0
  | m + 1 => match ys[m]? with | some l => l.2 + 1 | none => 0
def badAt (long : Int) (ys : List (Int × Int)) (k : Nat) : Bool := match ys[k]? with | some q => inB q.1 (lowAt ys k) (long - 1) && inB q.2 (q.1 + 1) long | none => true
def badOk (long : Int) (ys : List (Int × Int)) : Bool := inB long 0 60 && (decide (ys.length ≤ 4) && (List.range ys.length).all (badAt long ys))
theorem lowAt_succ {ys : List (Int × Int)} {m : Nat} {x y : Int} (h : ys[m]? = some (x, y)) : lowAt ys (m + 1) = y + 1 := by simp [lowAt, h]
theorem badAt_eq {long : Int} {ys : List (Int × Int)} {k : Nat} {x y : Int} (h : ys[k]? = some (x, y)) : badAt long ys k = (inB x (lowAt ys k) (long - 1) && inB y (x + 1) long) := by simp [badAt, h]
theorem badOk_no {long : Int} {ys : List (Int × Int)} (h : inB long 0 60 = false) : badOk long ys = false := by simp [badOk, h]
theorem badOk_many {long : Int} {ys : List (Int × Int)} (h : 4 < ys.length) : badOk long ys = false := by simp [badOk]; omega
theorem badOk_bad {long : Int} {ys : List (Int × Int)} {k : Nat} (hk : k < ys.length) (h : badAt long ys k = false) : badOk long ys = false := by
  have : (List.range ys.length).all (badAt long ys) = false := by
    rw [List.all_eq_false]; exact ⟨k, List.mem_range.2 hk, by simp [h]⟩
  simp [badOk, this]
theorem badOk_mk {long : Int} {ys : List (Int × Int)} (h : inB long 0 60 = true) (hl : ys.length ≤ 4) (ha : (List.range ys.length).all (badAt long ys) = true) : badOk long ys = true := by simp [badOk, h, hl, ha]

theorem bad_first {long L1 X1 x y : Int} {ys : List (Int × Int)} (hv : inB long 0 60 = true → L1 = long - 1) (hx : inB long 0 60 = true → inB x 0 L1 = true → X1 = x + 1)
    (he : badAt long ys 0 = (inB x (lowAt ys 0) (long - 1) && inB y (x + 1) long)) (hk : 0 < ys.length) (h : inB x 0 L1 = false ∨ (inB x 0 L1 = true ∧ inB y X1 long = false)) : badOk long ys = false := by
  cases hl : inB long 0 60
  · exact badOk_no hl
  · refine badOk_bad hk ?_
    rw [he]
    show (inB x 0 (long - 1) && inB y (x + 1) long) = false
    rw [← hv hl]
    rcases h with h | ⟨h, h'⟩
    · rw [h]; rfl
    · rw [← hx hl h, h']; simp
theorem bad_prev {long u v : Int} {ys : List (Int × Int)} {m : Nat} (hl : inB long 0 60 = true) (ha : ∀ {j : Nat}, j < m + 1 → badAt long ys j = true) (h : ys[m]? = some (u, v)) : 0 ≤ u ∧ u < v ∧ v ≤ 60 := by
  have h1 := inB_iff.1 hl
  have low : ∀ (m : Nat) (u v : Int), (∀ {j : Nat}, j < m + 1 → badAt long ys j = true) → ys[m]? = some (u, v) → 0 ≤ u ∧ u < v ∧ v ≤ long := by
    intro m
    induction m with
    | zero =>
      intro u v ha h
      have h0 := ha (j := 0) (by omega)
      rw [badAt_eq h, Bool.and_eq_true, inB_iff, inB_iff] at h0
      simp only [lowAt] at h0
      omega
    | succ m ih =>
      intro u v ha h
      have hlt := (List.getElem?_eq_some_iff.1 h).1
      obtain ⟨⟨a, b⟩, hp⟩ : ∃ q, ys[m]? = some q := ⟨_, List.getElem?_eq_getElem (by omega)⟩
      have := ih a b (fun hj => ha (by omega)) hp
      have h0 := ha (j := m + 1) (by omega)
      rw [badAt_eq h, lowAt_succ hp, Bool.and_eq_true, inB_iff, inB_iff] at h0
      omega
  have := low m u v ha h
  omega
theorem bad_next {long L1 X1 x y u v : Int} {ys : List (Int × Int)} {m : Nat} (hv : inB long 0 60 = true → L1 = long - 1) (hx : inB long 0 60 = true → inB x 0 L1 = true → X1 = x + 1)
    (he : badAt long ys (m + 1) = (inB x (lowAt ys (m + 1)) (long - 1) && inB y (x + 1) long)) (hp : lowAt ys (m + 1) = v + 1) (hpr : inB long 0 60 = true → 0 ≤ u ∧ u < v ∧ v ≤ 60) (hk : m + 1 < ys.length)
    (h : inB x 0 L1 = false ∨ ((inB x 0 L1 = true ∧ inB y X1 long = false) ∨ x ≤ v)) : badOk long ys = false := by
  cases hl : inB long 0 60
  · exact badOk_no hl
  · refine badOk_bad hk ?_
    have hq := hpr hl
    rw [he, hp, ← hv hl]
    rcases h with h | ⟨h, h'⟩ | h
    · rw [inB_false (fun hh => by have := inB_true (n := x) (l := 0) (h := L1) (by omega) hh.2; rw [h] at this; cases this)]; rfl
    · rw [← hx hl h, h']; simp
    · rw [inB_false (by omega)]; rfl
end Go.Proofs.YtcegmlogjbnoeaaDoor
