/- Plain law: what the laws on a furnace's times say beside 'the same as the reference'. -/
import Derived.Test.YtiddlpgpbafdmaaDoorOverPlain
import Derived.Test.YtiddlpgpbafdmaaDoorSplitPlain
namespace Go.Proofs.YtiddlpgpbafdmaaDoor
set_option linter.unusedVariables false
section
variable {xs ys : List (Int × Int)} {R : Nat} {p : Int}
theorem pt_prefix (R : Nat) (p : Int) (xs : List (Int × Int)) (k : Nat) : ∀ m, k ≤ m → m ≤ xs.length → passTimes R p (xs.take k) = (passTimes R p (xs.take m)).take k := by
  intro m
  induction m with
  | zero =>
    intro h _
    obtain rfl : k = 0 := by omega
    simp [passTimes]
  | succ m ih =>
    intro h hm
    by_cases e : k = m + 1
    · subst e
      exact (List.take_of_length_le (by rw [passTimes_length, List.length_take]; omega)).symm
    · obtain ⟨c, hc⟩ : ∃ c, xs[m]? = some c := ⟨_, List.getElem?_eq_getElem (by omega)⟩
      rw [passTimes_take hc, List.take_append_of_le_length (by rw [passTimes_length, List.length_take]; omega)]
      exact ih (by omega) (by omega)
theorem pt_get {k : Nat} {c : Int × Int} (h : xs[k]? = some c) : (passTimes R p xs)[k]? = some (passNext R p ((passTimes R p xs).take k) c) := by
  have hk := (List.getElem?_eq_some_iff.1 h).1
  have e1 := pt_prefix R p xs (k + 1) xs.length (by omega) (Nat.le_refl _)
  have e0 := pt_prefix R p xs k xs.length (by omega) (Nat.le_refl _)
  rw [List.take_length] at e1 e0
  rw [passTimes_take h, e0] at e1
  have hl : ((passTimes R p xs).take k).length = k := by rw [List.length_take, passTimes_length]; omega
  have : ((passTimes R p xs).take (k + 1))[k]? = some (passNext R p ((passTimes R p xs).take k) c) := by
    rw [← e1, List.getElem?_append_right (by omega), hl, Nat.sub_self]; rfl
  rwa [List.getElem?_take_of_lt (by omega)] at this
/-- the first slab's times -/
theorem pt_zero {x y : Int} (hR : 1 ≤ R) (h : xs[0]? = some (x, y)) : (passTimes R p xs)[0]? = some (x, x + y) := by
  rw [pt_get h, List.take_zero, passNext_nil _ _ _ hR]
theorem pt_few {x y lx ly : Int} {m : Nat} (h : xs[m + 1]? = some (x, y)) (hl : (passTimes R p xs)[m]? = some (lx, ly)) (hR : m + 1 < R) : (passTimes R p xs)[m + 1]? = some (max x lx, max (max x lx + y) (ly + p)) := by
  have hk := (List.getElem?_eq_some_iff.1 h).1
  rw [pt_get h, passNext_few (m := m) (lx := lx) (ly := ly) (by rw [List.length_take, passTimes_length]; omega) (by rw [List.getElem?_take_of_lt (by omega)]; exact hl) hR]
theorem pt_full {x y lx ly rx ry : Int} {m : Nat} (h : xs[m + 1]? = some (x, y)) (hl : (passTimes R p xs)[m]? = some (lx, ly)) (hR : R ≤ m + 1) (hR1 : 1 ≤ R) (hq : (passTimes R p xs)[m + 1 - R]? = some (rx, ry)) :
    (passTimes R p xs)[m + 1]? = some (max (max x lx) ry, max (max (max x lx) ry + y) (ly + p)) := by
  have hk := (List.getElem?_eq_some_iff.1 h).1
  rw [pt_get h, passNext_full (m := m) (lx := lx) (ly := ly) (rx := rx) (ry := ry) (by rw [List.length_take, passTimes_length]; omega) (by rw [List.getElem?_take_of_lt (by omega)]; exact hl) hR (by rw [List.getElem?_take_of_lt (by omega)]; exact hq)]
/-- all that the later proofs use of the times -/
theorem pt_at (hx : chargesOk xs = true) (hf : furnOk R p = true) {k : Nat} {x y : Int} (h : xs[k]? = some (x, y)) :
    ∃ i o, (passTimes R p xs)[k]? = some (i, o) ∧ x ≤ i ∧ i + y ≤ o ∧ 0 ≤ i ∧ o ≤ 1791 ∧
      (∀ m lx ly, k = m + 1 → (passTimes R p xs)[m]? = some (lx, ly) → lx ≤ i ∧ ly + p ≤ o) ∧
      (∀ rx ry, R ≤ k → (passTimes R p xs)[k - R]? = some (rx, ry) → ry ≤ i) := by
  obtain ⟨f1, f2, f3, f4⟩ := furnOk_iff.1 hf
  have hk := (List.getElem?_eq_some_iff.1 h).1
  obtain ⟨⟨i, o⟩, hio⟩ : ∃ q, (passTimes R p xs)[k]? = some q := ⟨_, List.getElem?_eq_getElem (by rw [passTimes_length]; omega)⟩
  have hb := passTimes_bounds (r := R) (p := p) (xs := xs) (k := xs.length) hx hf (j := k) (a := i) (b := o) (by rw [List.take_length]; exact hio)
  refine ⟨i, o, hio, ?_⟩
  cases k with
  | zero =>
    rw [pt_zero (by omega) h] at hio
    simp only [Option.some.injEq, Prod.mk.injEq] at hio
    obtain ⟨rfl, rfl⟩ := hio
    exact ⟨by omega, by omega, by omega, by omega, fun m lx ly e => by omega, fun rx ry e => by omega⟩
  | succ m =>
    obtain ⟨⟨lx, ly⟩, hl⟩ : ∃ q, (passTimes R p xs)[m]? = some q := ⟨_, List.getElem?_eq_getElem (by rw [passTimes_length]; omega)⟩
    by_cases hR : R ≤ m + 1
    · obtain ⟨⟨rx, ry⟩, hq⟩ : ∃ q, (passTimes R p xs)[m + 1 - R]? = some q := ⟨_, List.getElem?_eq_getElem (by rw [passTimes_length]; omega)⟩
      rw [pt_full h hl hR (by omega) hq] at hio
      simp only [Option.some.injEq, Prod.mk.injEq] at hio
      refine ⟨by omega, by omega, by omega, by omega, fun m' lx' ly' e he => ?_, fun rx' ry' e he => ?_⟩
      · obtain rfl : m' = m := by omega
        rw [hl] at he
        simp only [Option.some.injEq, Prod.mk.injEq] at he
        omega
      · rw [hq] at he
        simp only [Option.some.injEq, Prod.mk.injEq] at he
        omega
    · rw [pt_few h hl (by omega)] at hio
      simp only [Option.some.injEq, Prod.mk.injEq] at hio
      refine ⟨by omega, by omega, by omega, by omega, fun m' lx' ly' e he => ?_, fun rx' ry' e he => by omega⟩
      obtain rfl : m' = m := by omega
      rw [hl] at he
      simp only [Option.some.injEq, Prod.mk.injEq] at he
      omega
/-- the times are right -/
theorem times_ok (hx : chargesOk xs = true) (hf : furnOk R p = true) : passesOk xs R p (passTimes R p xs) = true := by
  obtain ⟨f1, f2, f3, f4⟩ := furnOk_iff.1 hf
  have ht : timesOk R p xs (passTimes R p xs) = true := by
    refine timesOk_mk (passTimes_length _ _ _) ?_
    rw [List.all_eq_true]
    intro k hk
    have hk := List.mem_range.1 hk
    obtain ⟨⟨x, y⟩, h⟩ : ∃ q, xs[k]? = some q := ⟨_, List.getElem?_eq_getElem hk⟩
    obtain ⟨i, o, hio, a, b, c, d, e, g⟩ := pt_at hx hf h
    have hy := chargesOk_get hx h
    have hr : rangeAt (passTimes R p xs) k = true := by rw [rangeAt_eq hio, inB_true (by omega) (by omega), inB_true (by omega) (by omega)]; rfl
    refine okAt_mk hr (by rw [stayAt_eq h hio, decide_eq_true a, decide_eq_true b]; rfl) ?_ ?_
    · cases k with
      | zero => rfl
      | succ m =>
        obtain ⟨⟨lx, ly⟩, hl⟩ : ∃ q, (passTimes R p xs)[m]? = some q := ⟨_, List.getElem?_eq_getElem (by rw [passTimes_length]; omega)⟩
        have := e m lx ly rfl hl
        rw [orderAt_eq hl hio, decide_eq_true this.1, decide_eq_true this.2]; rfl
    · by_cases hR : R ≤ k
      · obtain ⟨⟨rx, ry⟩, hq⟩ : ∃ q, (passTimes R p xs)[k - R]? = some q := ⟨_, List.getElem?_eq_getElem (by rw [passTimes_length]; omega)⟩
        rw [roomAt_eq hR hq hio, decide_eq_true (g rx ry hR hq)]
      · exact roomAt_few hR
  simp only [passesOk, hx, hf, Bool.true_and, Int.toNat_natCast]
  exact ht
theorem passesOk_parts {r : Int} (h : passesOk xs r p ys = true) : chargesOk xs = true ∧ furnOk r p = true ∧ ys.length = xs.length ∧ ∀ k, k < xs.length → okAt r.toNat p xs ys k = true := by
  simp only [passesOk, timesOk, Bool.and_eq_true, decide_eq_true_eq, List.all_eq_true] at h
  exact ⟨h.1, h.2.1, h.2.2.1, fun k hk => h.2.2.2 k (List.mem_range.2 hk)⟩
theorem passesOk_of {r : Int} (h1 : chargesOk xs = true) (h2 : furnOk r p = true) (h3 : ys.length = xs.length) (h4 : ∀ k, k < xs.length → okAt r.toNat p xs ys k = true) : passesOk xs r p ys = true := by
  simp only [passesOk, timesOk, Bool.and_eq_true, decide_eq_true_eq, List.all_eq_true]
  exact ⟨h1, h2, h3, fun k hk => h4 k (List.mem_range.1 hk)⟩
/-- what 'right at k' says -/
theorem okAt_facts {k : Nat} {x y i o : Int} (h : okAt R p xs ys k = true) (hx : xs[k]? = some (x, y)) (hy : ys[k]? = some (i, o)) :
    0 ≤ i ∧ i ≤ 9999 ∧ 0 ≤ o ∧ o ≤ 9999 ∧ x ≤ i ∧ i + y ≤ o ∧ (∀ m lx ly, k = m + 1 → ys[m]? = some (lx, ly) → lx ≤ i ∧ ly + p ≤ o) ∧ (∀ rx ry, R ≤ k → ys[k - R]? = some (rx, ry) → ry ≤ i) := by
  have hb := okAt_bounds h hy
  simp only [okAt, Bool.and_eq_true] at h
  obtain ⟨_, h2, h3, h4⟩ := h
  rw [stayAt_eq hx hy, Bool.and_eq_true, decide_eq_true_eq, decide_eq_true_eq] at h2
  refine ⟨hb.1, hb.2.1, hb.2.2.1, hb.2.2.2, h2.1, h2.2, fun m lx ly e hl => ?_, fun rx ry e hq => ?_⟩
  · subst e
    rw [orderAt_eq hl hy, Bool.and_eq_true, decide_eq_true_eq, decide_eq_true_eq] at h3
    exact h3
  · rw [roomAt_eq e hq hy, decide_eq_true_eq] at h4
    exact h4
/-- no times are earlier -/
theorem times_least (hR : 1 ≤ R) (hl : ys.length = xs.length) (h : ∀ k, k < xs.length → okAt R p xs ys k = true) : ∀ (k : Nat) (i o a b : Int), (passTimes R p xs)[k]? = some (i, o) → ys[k]? = some (a, b) → i ≤ a ∧ o ≤ b := by
  intro k
  induction k using Nat.strongRecOn with
  | ind k ih =>
    intro i o a b hio hab
    have hk : k < xs.length := by have := (List.getElem?_eq_some_iff.1 hio).1; rwa [passTimes_length] at this
    obtain ⟨⟨x, y⟩, hxy⟩ : ∃ q, xs[k]? = some q := ⟨_, List.getElem?_eq_getElem hk⟩
    obtain ⟨_, _, _, _, s1, s2, s3, s4⟩ := okAt_facts (h k hk) hxy hab
    cases k with
    | zero =>
      rw [pt_zero hR hxy] at hio
      simp only [Option.some.injEq, Prod.mk.injEq] at hio
      omega
    | succ m =>
      obtain ⟨⟨lx, ly⟩, hlm⟩ : ∃ q, (passTimes R p xs)[m]? = some q := ⟨_, List.getElem?_eq_getElem (by rw [passTimes_length]; omega)⟩
      obtain ⟨⟨la, lb⟩, ham⟩ : ∃ q, ys[m]? = some q := ⟨_, List.getElem?_eq_getElem (by omega)⟩
      have i1 := ih m (by omega) lx ly la lb hlm ham
      have i2 := s3 m la lb rfl ham
      by_cases hRm : R ≤ m + 1
      · obtain ⟨⟨rx, ry⟩, hq⟩ : ∃ q, (passTimes R p xs)[m + 1 - R]? = some q := ⟨_, List.getElem?_eq_getElem (by rw [passTimes_length]; omega)⟩
        obtain ⟨⟨ra, rb⟩, hqa⟩ : ∃ q, ys[m + 1 - R]? = some q := ⟨_, List.getElem?_eq_getElem (by omega)⟩
        have i3 := ih (m + 1 - R) (by omega) rx ry ra rb hq hqa
        have i4 := s4 ra rb hRm hqa
        rw [pt_full hxy hlm hRm hR hq] at hio
        simp only [Option.some.injEq, Prod.mk.injEq] at hio
        omega
      · rw [pt_few hxy hlm (by omega)] at hio
        simp only [Option.some.injEq, Prod.mk.injEq] at hio
        omega
/-- more room makes nobody later -/
theorem times_wide (hx : chargesOk xs = true) (hf : furnOk R p = true) (k : Nat) (i o a b : Int) (h1 : (passTimes (R + 1) p xs)[k]? = some (i, o)) (h2 : (passTimes R p xs)[k]? = some (a, b)) : i ≤ a ∧ o ≤ b := by
  obtain ⟨f1, f2, f3, f4⟩ := furnOk_iff.1 hf
  have mono : ∀ (m j : Nat) (a b c d : Int), m ≤ j → (passTimes R p xs)[m]? = some (a, b) → (passTimes R p xs)[j]? = some (c, d) → b ≤ d := by
    intro m j
    induction j with
    | zero =>
      intro a b c d hm ha hc
      obtain rfl : m = 0 := by omega
      rw [ha] at hc; simp only [Option.some.injEq, Prod.mk.injEq] at hc; omega
    | succ j ih =>
      intro a b c d hm ha hc
      by_cases e : m = j + 1
      · subst e; rw [ha] at hc; simp only [Option.some.injEq, Prod.mk.injEq] at hc; omega
      · have hj : j + 1 < xs.length := by have := (List.getElem?_eq_some_iff.1 hc).1; rwa [passTimes_length] at this
        obtain ⟨⟨x, y⟩, hxy⟩ : ∃ q, xs[j + 1]? = some q := ⟨_, List.getElem?_eq_getElem hj⟩
        obtain ⟨⟨u, v⟩, huv⟩ : ∃ q, (passTimes R p xs)[j]? = some q := ⟨_, List.getElem?_eq_getElem (by rw [passTimes_length]; omega)⟩
        obtain ⟨i, o, hio, _, _, _, _, e1, _⟩ := pt_at hx hf hxy
        rw [hc] at hio
        simp only [Option.some.injEq, Prod.mk.injEq] at hio
        have := e1 j u v rfl huv
        have := ih a b u v (by omega) ha huv
        omega
  refine times_least (R := R + 1) (ys := passTimes R p xs) (by omega) (passTimes_length _ _ _) (fun k hk => ?_) k i o a b h1 h2
  have ok := times_ok hx hf
  have := (passesOk_parts ok).2.2.2 k hk
  simp only [Int.toNat_natCast] at this
  simp only [okAt, Bool.and_eq_true] at this ⊢
  refine ⟨this.1, this.2.1, this.2.2.1, ?_⟩
  by_cases hR : R + 1 ≤ k
  · obtain ⟨⟨rx, ry⟩, hq⟩ : ∃ q, (passTimes R p xs)[k - (R + 1)]? = some q := ⟨_, List.getElem?_eq_getElem (by rw [passTimes_length]; omega)⟩
    obtain ⟨⟨sx, sy⟩, hs⟩ : ∃ q, (passTimes R p xs)[k - R]? = some q := ⟨_, List.getElem?_eq_getElem (by rw [passTimes_length]; omega)⟩
    obtain ⟨⟨u, v⟩, hu⟩ : ∃ q, (passTimes R p xs)[k]? = some q := ⟨_, List.getElem?_eq_getElem (by rw [passTimes_length]; omega)⟩
    have h4 := this.2.2.2
    rw [roomAt_eq (by omega) hs hu, decide_eq_true_eq] at h4
    have := mono (k - (R + 1)) (k - R) rx ry sx sy (by omega) hq hs
    rw [roomAt_eq hR hq hu, decide_eq_true_eq]; omega
  · exact roomAt_few hR
/-- a minute later -/
def laterAll (ys : List (Int × Int)) : List (Int × Int) := ys.map fun q => (q.1 + 1, q.2 + 1)
theorem laterAll_get {k : Nat} {a b : Int} (h : ys[k]? = some (a, b)) : (laterAll ys)[k]? = some (a + 1, b + 1) := by simp [laterAll, h]
theorem later_ok {r : Int} (h : passesOk xs r p ys = true) (hlast : ∀ (k : Nat) (a b : Int), ys[k]? = some (a, b) → b ≤ 9998) : passesOk xs r p (laterAll ys) = true := by
  obtain ⟨h1, h2, h3, h4⟩ := passesOk_parts h
  refine passesOk_of h1 h2 (by simp [laterAll, h3]) fun k hk => ?_
  obtain ⟨⟨x, y⟩, hx⟩ : ∃ q, xs[k]? = some q := ⟨_, List.getElem?_eq_getElem hk⟩
  obtain ⟨⟨i, o⟩, hy⟩ : ∃ q, ys[k]? = some q := ⟨_, List.getElem?_eq_getElem (by omega)⟩
  obtain ⟨a1, a2, a3, a4, a5, a6, a7, a8⟩ := okAt_facts (h4 k hk) hx hy
  have hc := chargesOk_get h1 hx
  have hb := hlast k i o hy
  have hy' := laterAll_get hy
  refine okAt_mk (by rw [rangeAt_eq hy', inB_true (by omega) (by omega), inB_true (by omega) (by omega)]; rfl) (by rw [stayAt_eq hx hy', decide_eq_true (by omega), decide_eq_true (by omega)]; rfl) ?_ ?_
  · cases k with
    | zero => rfl
    | succ m =>
      obtain ⟨⟨lx, ly⟩, hl⟩ : ∃ q, ys[m]? = some q := ⟨_, List.getElem?_eq_getElem (by omega)⟩
      have := a7 m lx ly rfl hl
      rw [orderAt_eq (laterAll_get hl) hy', decide_eq_true (by omega), decide_eq_true (by omega)]; rfl
  · by_cases hR : r.toNat ≤ k
    · obtain ⟨⟨rx, ry⟩, hq⟩ : ∃ q, ys[k - r.toNat]? = some q := ⟨_, List.getElem?_eq_getElem (by omega)⟩
      have := a8 rx ry hR hq
      rw [roomAt_eq hR (laterAll_get hq) hy', decide_eq_true (by omega)]
    · exact roomAt_few hR
end
end Go.Proofs.YtiddlpgpbafdmaaDoor
