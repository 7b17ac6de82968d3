/- Plain law: when times are right for slabs and a furnace. -/
import Derived.Test.YtiddlpgpbafdmaaDoorPass
namespace Go.Proofs.YtiddlpgpbafdmaaDoor
set_option linter.unusedVariables false
def rangeAt (ys : List (Int × Int)) (k : Nat) : Bool := match ys[k]? with | some y => inB y.1 0 9999 && inB y.2 0 9999 | none => true
def stayAt (xs ys : List (Int × Int)) (k : Nat) : Bool := match xs[k]?, ys[k]? with | some x, some y => decide (x.1 ≤ y.1) && decide (y.1 + x.2 ≤ y.2) | _, _ => true
def orderAt (p : Int) (ys : List (Int × Int)) : Nat → Bool
  | 0 => true
  | m + 1 => match ys[m]?, ys[m + 1]? with | some l, some y => decide (l.1 ≤ y.1) && decide (l.2 + p ≤ y.2) | _, _ => true
def roomAt (R : Nat) (ys : List (Int × Int)) (k : Nat) : Bool := if R ≤ k then (match ys[k - R]?, ys[k]? with | some q, some y => decide (q.2 ≤ y.1) | _, _ => true) else true
def okAt (R : Nat) (p : Int) (xs ys : List (Int × Int)) (k : Nat) : Bool := rangeAt ys k && (stayAt xs ys k && (orderAt p ys k && roomAt R ys k))
def timesOk (R : Nat) (p : Int) (xs ys : List (Int × Int)) : Bool := decide (ys.length = xs.length) && (List.range xs.length).all (okAt R p xs ys)
def passesOk (xs : List (Int × Int)) (r p : Int) (ys : List (Int × Int)) : Bool := chargesOk xs && (furnOk r p && timesOk r.toNat p xs ys)
section
variable {R : Nat} {p : Int} {xs ys : List (Int × Int)} {k m : Nat} {x1 x2 y1 y2 l1 l2 q1 q2 : Int}
theorem rangeAt_eq (h : ys[k]? = some (y1, y2)) : rangeAt ys k = (inB y1 0 9999 && inB y2 0 9999) := by simp [rangeAt, h]
theorem stayAt_eq (hx : xs[k]? = some (x1, x2)) (h : ys[k]? = some (y1, y2)) : stayAt xs ys k = (decide (x1 ≤ y1) && decide (y1 + x2 ≤ y2)) := by simp [stayAt, h, hx]
theorem orderAt_zero : orderAt p ys 0 = true := rfl
theorem orderAt_eq (hl : ys[m]? = some (l1, l2)) (h : ys[m + 1]? = some (y1, y2)) : orderAt p ys (m + 1) = (decide (l1 ≤ y1) && decide (l2 + p ≤ y2)) := by simp [orderAt, h, hl]
theorem roomAt_few (h : ¬ R ≤ k) : roomAt R ys k = true := by simp [roomAt, h]
theorem roomAt_eq (hk : R ≤ k) (hq : ys[k - R]? = some (q1, q2)) (h : ys[k]? = some (y1, y2)) : roomAt R ys k = decide (q2 ≤ y1) := by simp [roomAt, h, hq, hk]
theorem okAt_mk (h1 : rangeAt ys k = true) (h2 : stayAt xs ys k = true) (h3 : orderAt p ys k = true) (h4 : roomAt R ys k = true) : okAt R p xs ys k = true := by simp [okAt, h1, h2, h3, h4]
theorem okAt_1 (h : rangeAt ys k = false) : okAt R p xs ys k = false := by simp [okAt, h]
theorem okAt_2 (h : stayAt xs ys k = false) : okAt R p xs ys k = false := by simp [okAt, h]
theorem okAt_3 (h : orderAt p ys k = false) : okAt R p xs ys k = false := by simp [okAt, h]
theorem okAt_4 (h : roomAt R ys k = false) : okAt R p xs ys k = false := by simp [okAt, h]
theorem stay_bad (hx : xs[k]? = some (x1, x2)) (h : ys[k]? = some (y1, y2)) (hb : ¬ (x1 ≤ y1 ∧ y1 + x2 ≤ y2)) : okAt R p xs ys k = false := okAt_2 (by rw [stayAt_eq hx h]; simpa [Bool.and_eq_false_iff, Classical.not_and_iff_not_or_not] using hb)
theorem range_bad (h : ys[k]? = some (y1, y2)) (hb : inB y1 0 9999 = false ∨ inB y2 0 9999 = false) : okAt R p xs ys k = false := okAt_1 (by rw [rangeAt_eq h]; rcases hb with hb | hb <;> simp [hb])
theorem order_bad (hl : ys[m]? = some (l1, l2)) (h : ys[m + 1]? = some (y1, y2)) (hb : ¬ (l1 ≤ y1 ∧ l2 + p ≤ y2)) : okAt R p xs ys (m + 1) = false := okAt_3 (by rw [orderAt_eq hl h]; simpa [Bool.and_eq_false_iff, Classical.not_and_iff_not_or_not] using hb)
theorem room_bad (hk : R ≤ k) (hq : ys[k - R]? = some (q1, q2)) (h : ys[k]? = some (y1, y2)) (hb : y1 < q2) : okAt R p xs ys k = false := okAt_4 (by rw [roomAt_eq hk hq h]; simpa using hb)
theorem timesOk_bad (hk : k < xs.length) (h : okAt R p xs ys k = false) : timesOk R p xs ys = false := by
  have : (List.range xs.length).all (okAt R p xs ys) = false := by
    rw [List.all_eq_false]; exact ⟨k, List.mem_range.2 hk, by simp [h]⟩
  simp [timesOk, this]
theorem timesOk_len (h : ys.length ≠ xs.length) : timesOk R p xs ys = false := by simp [timesOk, h]
theorem all_range_succ {f : Nat → Bool} (h : (List.range k).all f = true) (hk : f k = true) : (List.range (k + 1)).all f = true := by
  rw [List.range_succ, List.all_append, h]; simp [hk]
theorem timesOk_mk (hl : ys.length = xs.length) (h : (List.range xs.length).all (okAt R p xs ys) = true) : timesOk R p xs ys = true := by simp [timesOk, hl, h]
theorem okAt_range {j : Nat} {f : Nat → Bool} (h : (List.range k).all f = true) (hj : j < k) : f j = true := List.all_eq_true.1 h j (List.mem_range.2 hj)
theorem okAt_bounds (h : okAt R p xs ys k = true) (hy : ys[k]? = some (y1, y2)) : 0 ≤ y1 ∧ y1 ≤ 9999 ∧ 0 ≤ y2 ∧ y2 ≤ 9999 := by
  simp only [okAt, Bool.and_eq_true] at h
  have := h.1
  rw [rangeAt_eq hy, Bool.and_eq_true, inB_iff, inB_iff] at this
  omega
theorem rangeAt_bounds (h : rangeAt ys k = true) (hy : ys[k]? = some (y1, y2)) : 0 ≤ y1 ∧ y1 ≤ 9999 ∧ 0 ≤ y2 ∧ y2 ≤ 9999 := by
  rw [rangeAt_eq hy, Bool.and_eq_true, inB_iff, inB_iff] at h
  omega
theorem okAt_yes0 (hx : xs[0]? = some (x1, x2)) (hy : ys[0]? = some (y1, y2)) (hr : rangeAt ys 0 = true) (h1 : x1 ≤ y1) (h2 : y1 + x2 ≤ y2) (hR : 1 ≤ R) : okAt R p xs ys 0 = true :=
  okAt_mk hr (by rw [stayAt_eq hx hy]; simp [h1, h2]) rfl (roomAt_few (by omega))
theorem okAt_yes (hx : xs[m + 1]? = some (x1, x2)) (hy : ys[m + 1]? = some (y1, y2)) (hl : ys[m]? = some (l1, l2)) (hr : rangeAt ys (m + 1) = true) (h1 : x1 ≤ y1) (h2 : y1 + x2 ≤ y2) (h3 : l1 ≤ y1) (h4 : l2 + p ≤ y2) (hroom : roomAt R ys (m + 1) = true) :
    okAt R p xs ys (m + 1) = true :=
  okAt_mk hr (by rw [stayAt_eq hx hy]; simp [h1, h2]) (by rw [orderAt_eq hl hy]; simp [h3, h4]) hroom
end
end Go.Proofs.YtiddlpgpbafdmaaDoor
