/- Plain law: the times at which slabs go through a furnace. -/
import Derived.Test.YtiddlpgpbafdmaaDoorFurn
namespace Go.Proofs.YtiddlpgpbafdmaaDoor
set_option linter.unusedVariables false
theorem snoc_ind {α : Type} {P : List α → Prop} (h0 : P []) (hs : ∀ xs x, P xs → P (xs ++ [x])) (xs : List α) : P xs := by
  have h : ∀ ys : List α, P ys.reverse := by
    intro ys
    induction ys with
    | nil => exact h0
    | cons y ys ih => rw [List.reverse_cons]; exact hs _ _ ih
  have := h xs.reverse
  rwa [List.reverse_reverse] at this
/-! ### the earliest times -/
def mx (a b : Int) : Int := if a < b then b else a
theorem mx_le {a b c : Int} (h1 : a ≤ c) (h2 : b ≤ c) : mx a b ≤ c := by unfold mx; split <;> assumption
theorem le_mx_left (a b : Int) : a ≤ mx a b := by unfold mx; split <;> omega
theorem le_mx_right (a b : Int) : b ≤ mx a b := by unfold mx; split <;> omega
theorem mx_eq_max (a b : Int) : mx a b = max a b := by unfold mx; split <;> omega
/-- when the next slab goes in, and when it leaves, behind those whose times are told -/
def passNext (r : Nat) (p : Int) (acc : List (Int × Int)) (c : Int × Int) : Int × Int :=
  let i1 := match acc.getLast? with | some l => max c.1 l.1 | none => c.1
  let i2 := if r ≤ acc.length then (match acc[acc.length - r]? with | some q => max i1 q.2 | none => i1) else i1
  let o1 := i2 + c.2
  (i2, match acc.getLast? with | some l => max o1 (l.2 + p) | none => o1)
def passTimes (r : Nat) (p : Int) (xs : List (Int × Int)) : List (Int × Int) := xs.foldl (fun acc c => acc ++ [passNext r p acc c]) []
theorem passTimes_nil (r : Nat) (p : Int) : passTimes r p [] = [] := rfl
theorem passTimes_snoc (r : Nat) (p : Int) (xs : List (Int × Int)) (c : Int × Int) : passTimes r p (xs ++ [c]) = passTimes r p xs ++ [passNext r p (passTimes r p xs) c] := by
  simp [passTimes, List.foldl_append]
theorem passTimes_take {r : Nat} {p : Int} {xs : List (Int × Int)} {k : Nat} {c : Int × Int} (h : xs[k]? = some c) : passTimes r p (xs.take (k + 1)) = passTimes r p (xs.take k) ++ [passNext r p (passTimes r p (xs.take k)) c] := by
  rw [List.take_add_one, h, Option.toList_some, passTimes_snoc]
theorem passTimes_length (r : Nat) (p : Int) (xs : List (Int × Int)) : (passTimes r p xs).length = xs.length := by
  refine snoc_ind (P := fun xs => (passTimes r p xs).length = xs.length) rfl (fun xs c ih => ?_) xs
  rw [passTimes_snoc]; simp [ih]
theorem passNext_nil (r : Nat) (p : Int) (c : Int × Int) (hr : 1 ≤ r) : passNext r p [] c = (c.1, c.1 + c.2) := by
  unfold passNext
  simp
theorem passNext_few {r : Nat} {p : Int} {acc : List (Int × Int)} {x y lx ly : Int} {m : Nat} (hl : acc.length = m + 1) (hm : acc[m]? = some (lx, ly)) (hr : m + 1 < r) :
    passNext r p acc (x, y) = (max x lx, max (max x lx + y) (ly + p)) := by
  have h : acc.getLast? = some (lx, ly) := by rw [List.getLast?_eq_getElem?, hl]; exact hm
  unfold passNext
  simp only [h]
  rw [if_neg (by omega)]
theorem passNext_full {r : Nat} {p : Int} {acc : List (Int × Int)} {x y lx ly rx ry : Int} {m : Nat} (hl : acc.length = m + 1) (hm : acc[m]? = some (lx, ly)) (hr : r ≤ m + 1) (hq : acc[m + 1 - r]? = some (rx, ry)) :
    passNext r p acc (x, y) = (max (max x lx) ry, max (max (max x lx) ry + y) (ly + p)) := by
  have h : acc.getLast? = some (lx, ly) := by rw [List.getLast?_eq_getElem?, hl]; exact hm
  unfold passNext
  simp only [h]
  rw [if_pos (by omega), hl, hq]

/-- all times that can come up are small -/
theorem passTimes_small {r : Nat} {p : Int} (hp0 : 0 ≤ p) (hp1 : p ≤ 99) (hr : 1 ≤ r) (xs : List (Int × Int)) (hx : ∀ q ∈ xs, 0 ≤ q.1 ∧ q.1 ≤ 999 ∧ 1 ≤ q.2 ∧ q.2 ≤ 99) :
    ∀ q ∈ passTimes r p xs, 0 ≤ q.1 ∧ q.1 ≤ q.2 ∧ q.2 ≤ 999 + 99 * (xs.length : Int) := by
  revert hx
  refine snoc_ind (P := fun xs => (∀ q ∈ xs, 0 ≤ q.1 ∧ q.1 ≤ 999 ∧ 1 ≤ q.2 ∧ q.2 ≤ 99) → ∀ q ∈ passTimes r p xs, 0 ≤ q.1 ∧ q.1 ≤ q.2 ∧ q.2 ≤ 999 + 99 * (xs.length : Int)) ?_ ?_ xs
  · intro _ q hq; simp [passTimes] at hq
  · intro xs c ih hx
    have ih := ih fun q hq => hx q (by simp [hq])
    obtain ⟨c0, c1, c2, c3⟩ := hx c (by simp)
    intro q hq
    rw [passTimes_snoc, List.mem_append, List.mem_singleton] at hq
    rcases hq with hq | rfl
    · have := ih q hq
      simp only [List.length_append, List.length_singleton]
      omega
    · simp only [List.length_append, List.length_singleton]
      cases hl : (passTimes r p xs).getLast? with
      | none =>
        have hn : passTimes r p xs = [] := by simpa using hl
        rw [hn, passNext_nil r p c hr]
        simp only
        omega
      | some l =>
        have hlm := ih l (List.mem_of_getLast? hl)
        obtain ⟨m, hm⟩ : ∃ m, (passTimes r p xs).length = m + 1 := by
          cases hn : passTimes r p xs with
          | nil => rw [hn] at hl; simp at hl
          | cons a b => exact ⟨b.length, rfl⟩
        obtain ⟨lx, ly⟩ := l
        obtain ⟨x, y⟩ := c
        have hlast : (passTimes r p xs)[m]? = some (lx, ly) := by rw [← hl, List.getLast?_eq_getElem?, hm]; rfl
        simp only at hlm c0 c1 c2 c3
        by_cases hrm : r ≤ m + 1
        · obtain ⟨⟨rx, ry⟩, hq'⟩ : ∃ q', (passTimes r p xs)[m + 1 - r]? = some q' := ⟨_, List.getElem?_eq_getElem (by omega)⟩
          have hqm := ih _ (List.mem_of_getElem? hq')
          rw [passNext_full hm hlast hrm hq']
          simp only at hqm ⊢
          omega
        · rw [passNext_few hm hlast (by omega)]
          simp only
          omega

theorem passTimes_bounds {r : Nat} {p : Int} {xs : List (Int × Int)} (hx : chargesOk xs = true) (hf : furnOk r p = true) {k j : Nat} {a b : Int} (h : (passTimes r p (xs.take k))[j]? = some (a, b)) : 0 ≤ a ∧ a ≤ b ∧ b ≤ 1791 := by
  obtain ⟨f1, f2, f3, f4⟩ := furnOk_iff.1 hf
  have := passTimes_small f3 f4 (by omega) (xs.take k) (fun q hq => by
    obtain ⟨j, hj⟩ := List.getElem?_of_mem (List.mem_of_mem_take hq)
    exact chargesOk_get hx hj) _ (List.mem_of_getElem? h)
  have hl := chargesOk_len hx
  have : (xs.take k).length ≤ 8 := by rw [List.length_take]; omega
  simp only at *
  omega
theorem pt_len {r : Nat} {p : Int} {xs : List (Int × Int)} {k : Nat} (hk : k ≤ xs.length) : (passTimes r p (xs.take k)).length = k := by
  rw [passTimes_length, List.length_take]; omega
/-- the row of times behind one more slab -/
theorem pt_fill {r : Nat} {p : Int} {xs : List (Int × Int)} {k n : Nat} {c q z : Int × Int} (hl : xs.length = n) (h : xs[k]? = some c) (hq : passNext r p (passTimes r p (xs.take k)) c = q) :
    (passTimes r p (xs.take k) ++ List.replicate (n - k) z).set k q = passTimes r p (xs.take (k + 1)) ++ List.replicate (n - (k + 1)) z := by
  have hk := (List.getElem?_eq_some_iff.1 h).1
  have e : n - k = (n - (k + 1)) + 1 := by omega
  have hlen := pt_len (r := r) (p := p) (xs := xs) (k := k) (by omega)
  rw [passTimes_take h, hq, e, List.replicate_succ, List.set_append_right _ _ (by omega), hlen]
  simp

/-- what 'PassTimes' returns -/
def timesOf (xs : List (Int × Int)) (r p : Int) : List (Int × Int) := if chargesOk xs && furnOk r p then passTimes r.toNat p xs else []
theorem timesOf_no {xs : List (Int × Int)} {r p : Int} (h : (chargesOk xs && furnOk r p) = false) : timesOf xs r p = [] := by simp only [timesOf, h]; rfl
theorem timesOf_ok {xs : List (Int × Int)} {R : Nat} {p : Int} (h : (chargesOk xs && furnOk R p) = true) : timesOf xs R p = passTimes R p xs := by simp only [timesOf, h]; rfl
end Go.Proofs.YtiddlpgpbafdmaaDoor
