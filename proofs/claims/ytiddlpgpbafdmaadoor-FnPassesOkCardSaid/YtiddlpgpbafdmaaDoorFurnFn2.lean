/- Plain law: the end, the sum, the sharing and the number of slabs inside. -/
import Derived.Test.YtiddlpgpbafdmaaDoorFurnFn
namespace Go.Proofs.YtiddlpgpbafdmaaDoor
set_option linter.unusedVariables false
section
variable {xs ys : List (Int × Int)} {R : Nat} {p : Int}
theorem lastOut_of {ts : List (Int × Int)} {m : Nat} {a b : Int} (hl : ts.length = m + 1) (h : ts[m]? = some (a, b)) : lastOut ts = b := lastOut_at hl h
/-- who leaves later is not earlier -/
theorem outs_mono (hx : chargesOk xs = true) (hf : furnOk R p = true) (m : Nat) : ∀ (j : Nat) (a b c d : Int), m ≤ j → (passTimes R p xs)[m]? = some (a, b) → (passTimes R p xs)[j]? = some (c, d) → b ≤ d := by
  obtain ⟨f1, f2, f3, f4⟩ := furnOk_iff.1 hf
  intro j
  induction j with
  | zero =>
    intro a b c d hm ha hc
    obtain rfl : m = 0 := by omega
    rw [ha] at hc; simp only [Option.some.injEq, Prod.mk.injEq] at hc; omega
  | succ j ih =>
    intro a b c d hm ha hc
    by_cases e : m = j + 1
    · subst e; rw [ha] at hc; simp only [Option.some.injEq, Prod.mk.injEq] at hc; omega
    · have hj : j + 1 < xs.length := by have := (List.getElem?_eq_some_iff.1 hc).1; rwa [passTimes_length] at this
      obtain ⟨⟨x, y⟩, hxy⟩ : ∃ q, xs[j + 1]? = some q := ⟨_, List.getElem?_eq_getElem hj⟩
      obtain ⟨⟨u, v⟩, huv⟩ : ∃ q, (passTimes R p xs)[j]? = some q := ⟨_, List.getElem?_eq_getElem (by rw [passTimes_length]; omega)⟩
      obtain ⟨i, o, hio, _, _, _, _, e1, _⟩ := pt_at hx hf hxy
      rw [hc] at hio
      simp only [Option.some.injEq, Prod.mk.injEq] at hio
      have := e1 j u v rfl huv
      have := ih a b u v (by omega) ha huv
      omega
/-- every slab has come and stayed by the end -/
theorem passEnd_each (hx : chargesOk xs = true) (hf : furnOk R p = true) {k : Nat} {x y : Int} (h : xs[k]? = some (x, y)) : x + y ≤ passEnd xs R p := by
  have hk := (List.getElem?_eq_some_iff.1 h).1
  obtain ⟨m, hm⟩ : ∃ m, xs.length = m + 1 := ⟨xs.length - 1, by omega⟩
  obtain ⟨⟨u, v⟩, hl⟩ : ∃ q, (passTimes R p xs)[m]? = some q := ⟨_, List.getElem?_eq_getElem (by rw [passTimes_length]; omega)⟩
  obtain ⟨i, o, hio, a, b, _⟩ := pt_at hx hf h
  have := outs_mono hx hf k m i o u v (by omega) hio hl
  rw [passEnd_ok (by rw [hx, hf]; rfl), lastOut_at (m := m) (by rw [passTimes_length, hm]) hl]
  omega
theorem chargesOk_take (hx : chargesOk xs = true) (k : Nat) : chargesOk (xs.take k) = true := by
  refine chargesOk_mk (by have := chargesOk_len hx; rw [List.length_take]; omega) ?_
  rw [List.all_eq_true]
  intro q hq
  simp only [chargesOk, Bool.and_eq_true, List.all_eq_true] at hx
  exact hx.2 q (List.mem_of_mem_take hq)
theorem passEnd_nonneg (hx : chargesOk xs = true) (hf : furnOk R p = true) : 0 ≤ passEnd xs R p := by
  rw [passEnd_ok (by rw [hx, hf]; rfl)]
  unfold lastOut
  cases h : (passTimes R p xs).getLast? with
  | none => simp
  | some l =>
    obtain ⟨j, hj⟩ := List.getElem?_of_mem (List.mem_of_getLast? h)
    have := passTimes_bounds (r := R) (p := p) (xs := xs) (k := xs.length) hx hf (j := j) (a := l.1) (b := l.2) (by rw [List.take_length]; exact hj)
    simp only; omega
/-- a slab less ends no later -/
theorem passEnd_less (hx : chargesOk xs = true) (hf : furnOk R p = true) {m : Nat} (hm : xs.length = m + 1) : passEnd (xs.take m) R p ≤ passEnd xs R p := by
  have e := pt_prefix R p xs m xs.length (by omega) (Nat.le_refl _)
  rw [List.take_length] at e
  rcases m with _ | m
  · have : passEnd (xs.take 0) R p = 0 := by
      rw [passEnd_ok (by rw [chargesOk_take hx, hf]; rfl), e]; simp [lastOut]
    rw [this]; exact passEnd_nonneg hx hf
  · obtain ⟨⟨u, v⟩, hl⟩ : ∃ q, (passTimes R p xs)[m + 1]? = some q := ⟨_, List.getElem?_eq_getElem (by rw [passTimes_length]; omega)⟩
    obtain ⟨⟨u', v'⟩, hl'⟩ : ∃ q, (passTimes R p xs)[m]? = some q := ⟨_, List.getElem?_eq_getElem (by rw [passTimes_length]; omega)⟩
    rw [passEnd_ok (xs := xs) (by rw [hx, hf]; rfl), passEnd_ok (xs := xs.take (m + 1)) (by rw [chargesOk_take hx, hf]; rfl), lastOut_at (m := m + 1) (by rw [passTimes_length, hm]) hl,
      lastOut_at (ts := passTimes R p (xs.take (m + 1))) (m := m) (by rw [passTimes_length, List.length_take]; omega) (by rw [e, List.getElem?_take_of_lt (by omega)]; exact hl')]
    exact outs_mono hx hf m (m + 1) u' v' u v (by omega) hl' hl
/-! ### the sum -/
theorem overTo_nonneg {r : Int} (h : passesOk xs r p ys = true) (k : Nat) (hk : k ≤ xs.length) : 0 ≤ overTo xs ys k := by
  obtain ⟨h1, h2, h3, h4⟩ := passesOk_parts h
  induction k with
  | zero => exact Int.le_refl _
  | succ k ih =>
    obtain ⟨⟨x, y⟩, hx⟩ : ∃ q, xs[k]? = some q := ⟨_, List.getElem?_eq_getElem (by omega)⟩
    obtain ⟨⟨i, o⟩, hy⟩ : ∃ q, ys[k]? = some q := ⟨_, List.getElem?_eq_getElem (by omega)⟩
    obtain ⟨a1, a2, a3, a4, a5, a6, _⟩ := okAt_facts (h4 k (by omega)) hx hy
    have := ih (by omega)
    rw [overTo_succ hx hy]; omega
theorem passOver_neg {r : Int} (h : passOver xs r p ys < 0) : passOver xs r p ys = -1 ∧ passesOk xs r p ys = false := by
  cases hc : passesOk xs r p ys
  · exact ⟨passOver_no hc, rfl⟩
  · rw [passOver_ok hc] at h
    have := overTo_nonneg hc xs.length (Nat.le_refl _); omega
/-- with the last one leaving a minute later -/
def lastLater (ys : List (Int × Int)) (m : Nat) (a b : Int) : List (Int × Int) := ys.set m (a, b + 1)
theorem lastLater_ok {r : Int} {m : Nat} {a b : Int} (h : passesOk xs r p ys = true) (hm : ys.length = m + 1) (hl : ys[m]? = some (a, b)) (hb : b + 1 ≤ 9999) : passesOk xs r p (ys.set m (a, b + 1)) = true := by
  obtain ⟨h1, h2, h3, h4⟩ := passesOk_parts h
  refine passesOk_of h1 h2 (by simp [h3]) fun k hk => ?_
  obtain ⟨⟨x, y⟩, hx⟩ : ∃ q, xs[k]? = some q := ⟨_, List.getElem?_eq_getElem hk⟩
  obtain ⟨⟨i, o⟩, hy⟩ : ∃ q, ys[k]? = some q := ⟨_, List.getElem?_eq_getElem (by omega)⟩
  obtain ⟨a1, a2, a3, a4, a5, a6, a7, a8⟩ := okAt_facts (h4 k hk) hx hy
  have hc := chargesOk_get h1 hx
  have hR1 := (furnOk_iff.1 h2).1
  have old : ∀ (j : Nat) (q : Int × Int), j < m → ys[j]? = some q → (ys.set m (a, b + 1))[j]? = some q := fun j q hj hq => by rw [List.getElem?_set_ne (by omega)]; exact hq
  by_cases e : k = m
  · subst e
    rw [hl] at hy
    simp only [Option.some.injEq, Prod.mk.injEq] at hy
    obtain ⟨rfl, rfl⟩ := hy
    have hy' : (ys.set k (a, b + 1))[k]? = some (a, b + 1) := List.getElem?_set_self (by omega)
    refine okAt_mk (by rw [rangeAt_eq hy', inB_true (by omega) (by omega), inB_true (by omega) (by omega)]; rfl) (by rw [stayAt_eq hx hy', decide_eq_true (by omega), decide_eq_true (by omega)]; rfl) ?_ ?_
    · cases k with
      | zero => rfl
      | succ k =>
        obtain ⟨⟨lx, ly⟩, hlk⟩ : ∃ q, ys[k]? = some q := ⟨_, List.getElem?_eq_getElem (by omega)⟩
        have := a7 k lx ly rfl hlk
        rw [orderAt_eq (old k _ (by omega) hlk) hy', decide_eq_true (by omega), decide_eq_true (by omega)]; rfl
    · by_cases hR : r.toNat ≤ k
      · obtain ⟨⟨rx, ry⟩, hq⟩ : ∃ q, ys[k - r.toNat]? = some q := ⟨_, List.getElem?_eq_getElem (by omega)⟩
        have := a8 rx ry hR hq
        rw [roomAt_eq hR (old _ _ (by omega) hq) hy', decide_eq_true (by omega)]
      · exact roomAt_few hR
  · have hy' := old k _ (by omega) hy
    refine okAt_mk (by rw [rangeAt_eq hy', inB_true (by omega) (by omega), inB_true (by omega) (by omega)]; rfl) (by rw [stayAt_eq hx hy', decide_eq_true (by omega), decide_eq_true (by omega)]; rfl) ?_ ?_
    · cases k with
      | zero => rfl
      | succ k =>
        obtain ⟨⟨lx, ly⟩, hlk⟩ : ∃ q, ys[k]? = some q := ⟨_, List.getElem?_eq_getElem (by omega)⟩
        have := a7 k lx ly rfl hlk
        rw [orderAt_eq (old k _ (by omega) hlk) hy', decide_eq_true (by omega), decide_eq_true (by omega)]; rfl
    · by_cases hR : r.toNat ≤ k
      · obtain ⟨⟨rx, ry⟩, hq⟩ : ∃ q, ys[k - r.toNat]? = some q := ⟨_, List.getElem?_eq_getElem (by omega)⟩
        have := a8 rx ry hR hq
        rw [roomAt_eq hR (old _ _ (by omega) hq) hy', decide_eq_true (by omega)]
      · exact roomAt_few hR
theorem overTo_set {m : Nat} {q : Int × Int} : ∀ k, k ≤ m → overTo xs (ys.set m q) k = overTo xs ys k := by
  intro k
  induction k with
  | zero => intro _; rfl
  | succ k ih =>
    intro hk
    simp only [overTo]
    rw [ih (by omega), List.getElem?_set_ne (by omega)]
theorem lastLater_over {r : Int} {m : Nat} {a b : Int} (h : passesOk xs r p ys = true) (hm : ys.length = m + 1) (hl : ys[m]? = some (a, b)) (hb : b + 1 ≤ 9999) : passOver xs r p (ys.set m (a, b + 1)) = passOver xs r p ys + 1 := by
  have h3 := (passesOk_parts h).2.2.1
  obtain ⟨⟨x, y⟩, hx⟩ : ∃ q, xs[m]? = some q := ⟨_, List.getElem?_eq_getElem (by omega)⟩
  rw [passOver_ok h, passOver_ok (lastLater_ok h hm hl hb), show xs.length = m + 1 by omega, overTo_succ hx hl, overTo_succ hx (List.getElem?_set_self (by omega)), overTo_set _ (Nat.le_refl _)]
  omega
/-! ### how many are inside -/
theorem count_close {f : Int × Int → Bool} : ∀ (ys : List (Int × Int)) (R : Nat), 1 ≤ R → (∀ (j k : Nat) (u v : Int × Int), j ≤ k → ys[j]? = some u → ys[k]? = some v → f u = true → f v = true → k < j + R) → ys.countP f ≤ R := by
  intro ys
  induction ys with
  | nil => intro R hR _; simp
  | cons y ys ih =>
    intro R hR h
    by_cases hy : f y = true
    · rw [List.countP_cons_of_pos hy]
      have : ys.countP f ≤ R - 1 := by
        have e : ys.countP f = (ys.take (R - 1)).countP f := by
          conv => lhs; rw [← List.take_append_drop (R - 1) ys]
          rw [List.countP_append]
          have : (ys.drop (R - 1)).countP f = 0 := by
            rw [List.countP_eq_zero]
            intro v hv hfv
            obtain ⟨j, hj⟩ := List.getElem?_of_mem hv
            rw [List.getElem?_drop] at hj
            have := h 0 (R - 1 + j + 1) y v (by omega) rfl (by simpa using hj) hy hfv
            omega
          omega
        rw [e]
        have := List.countP_le_length (p := f) (l := ys.take (R - 1))
        rw [List.length_take] at this; omega
      omega
    · rw [List.countP_cons_of_neg hy]
      exact ih R hR fun j k u v hjk hu hv fu fv => by
        have := h (j + 1) (k + 1) u v (by omega) (by simpa using hu) (by simpa using hv) fu fv
        omega
theorem inside_le {r t : Int} (h : passesOk xs r p ys = true) : 0 ≤ inCnt t ys ∧ inCnt t ys ≤ r := by
  obtain ⟨h1, h2, h3, h4⟩ := passesOk_parts h
  obtain ⟨f1, f2, f3, f4⟩ := furnOk_iff.1 h2
  have mono : ∀ (m j : Nat) (a b c d : Int), m ≤ j → ys[m]? = some (a, b) → ys[j]? = some (c, d) → b ≤ d := by
    intro m j
    induction j with
    | zero =>
      intro a b c d hm ha hc
      obtain rfl : m = 0 := by omega
      rw [ha] at hc; simp only [Option.some.injEq, Prod.mk.injEq] at hc; omega
    | succ j ih =>
      intro a b c d hm ha hc
      by_cases e : m = j + 1
      · subst e; rw [ha] at hc; simp only [Option.some.injEq, Prod.mk.injEq] at hc; omega
      · have hj := (List.getElem?_eq_some_iff.1 hc).1
        obtain ⟨⟨x, y⟩, hxy⟩ : ∃ q, xs[j + 1]? = some q := ⟨_, List.getElem?_eq_getElem (by omega)⟩
        obtain ⟨⟨u, v⟩, huv⟩ : ∃ q, ys[j]? = some q := ⟨_, List.getElem?_eq_getElem (by omega)⟩
        have o := (okAt_facts (h4 (j + 1) (by omega)) hxy hc).2.2.2.2.2.2.1 j u v rfl huv
        have := ih a b u v (by omega) ha huv
        omega
  unfold inCnt
  refine ⟨by omega, ?_⟩
  have : ys.countP (inAt t) ≤ r.toNat := count_close ys r.toNat (by omega) fun j k u v hjk hu hv fu fv => by
    rcases Nat.lt_or_ge k (j + r.toNat) with hlt | hge
    · exact hlt
    · exfalso
      obtain ⟨a, b⟩ := u
      obtain ⟨c, d⟩ := v
      have hk := (List.getElem?_eq_some_iff.1 hv).1
      obtain ⟨⟨x, y⟩, hxy⟩ : ∃ q, xs[k]? = some q := ⟨_, List.getElem?_eq_getElem (by omega)⟩
      obtain ⟨⟨e, g⟩, hq⟩ : ∃ q, ys[k - r.toNat]? = some q := ⟨_, List.getElem?_eq_getElem (by omega)⟩
      have o := (okAt_facts (h4 k (by omega)) hxy hv).2.2.2.2.2.2.2 e g (by omega) hq
      have := mono j (k - r.toNat) a b e g (by omega) hu hq
      simp only [inAt, Bool.and_eq_true, decide_eq_true_eq] at fu fv
      omega
  omega
end
/-! ### sharing -/
section
variable {xs : List (Int × Int)} {r p s : Int}
theorem bitI_flip : ∀ n, n ≤ 8 → ∀ s : Nat, s < 2 ^ n → ∀ k, k < n → ((2 ^ n - 1 - s) / 2 ^ k % 2 + s / 2 ^ k % 2 = 1) := by decide +kernel
theorem bitI_cast (s k : Nat) : bitI (s : Int) k = ((s / 2 ^ k % 2 : Nat) : Int) := by
  unfold bitI
  rw [show ((2 : Int) ^ k) = ((2 ^ k : Nat) : Int) by simp, ← Int.natCast_ediv]
  omega
theorem bitI_all {n k : Nat} {s : Int} (hn : n ≤ 8) (h0 : 0 ≤ s) (h1 : s ≤ 2 ^ n - 1) (hk : k < n) : bitI (2 ^ n - 1 - s) k = 1 - bitI s k := by
  obtain ⟨S, rfl⟩ : ∃ S : Nat, s = (S : Int) := ⟨s.toNat, by omega⟩
  have e : ((2 : Int) ^ n) = ((2 ^ n : Nat) : Int) := by simp
  rw [e] at h1 ⊢
  have hS : S < 2 ^ n := by have : 0 < 2 ^ n := Nat.two_pow_pos n; omega
  have e2 : (((2 ^ n : Nat) : Int) - 1 - (S : Int)) = ((2 ^ n - 1 - S : Nat) : Int) := by have : 0 < 2 ^ n := Nat.two_pow_pos n; omega
  rw [e2, bitI_cast, bitI_cast]
  have := bitI_flip n hn S hS k hk
  omega
theorem selTo_flip {n : Nat} (hn : n ≤ 8) (h0 : 0 ≤ s) (h1 : s ≤ 2 ^ n - 1) (b : Int) : ∀ k, k ≤ n → selTo xs (2 ^ n - 1 - s) b k = selTo xs s (1 - b) k := by
  intro k
  induction k with
  | zero => intro _; rfl
  | succ k ih =>
    intro hk
    simp only [selTo]
    rw [ih (by omega), bitI_all hn h0 h1 (by omega)]
    have : (1 - bitI s k = b) ↔ (bitI s k = 1 - b) := by omega
    simp only [this]
theorem mx_comm (a b : Int) : mx a b = mx b a := by unfold mx; split <;> split <;> omega
theorem splitEnd_flip (h1 : chargesOk xs = true) (h2 : furnOk r p = true) (h3 : inB s 0 (2 ^ xs.length - 1) = true) : splitEnd xs r p (2 ^ xs.length - 1 - s) = splitEnd xs r p s := by
  obtain ⟨a, b⟩ := inB_iff.1 h3
  have h8 := chargesOk_len h1
  rw [splitEnd_4 rfl h1 h2 h3, splitEnd_4 rfl h1 h2 (inB_true (by omega) (by omega)), selTo_flip h8 a b 0 _ (Nat.le_refl _), selTo_flip h8 a b 1 _ (Nat.le_refl _), mx_comm]
  rfl
theorem bitI_zero (k : Nat) : bitI 0 k = 0 := by unfold bitI; simp
theorem selTo_all : ∀ k, k ≤ xs.length → selTo xs 0 0 k = xs.take k ∧ selTo xs 0 1 k = [] := by
  intro k
  induction k with
  | zero => intro _; simp [selTo]
  | succ k ih =>
    intro hk
    obtain ⟨a, b⟩ := ih (by omega)
    obtain ⟨⟨x, y⟩, hx⟩ : ∃ q, xs[k]? = some q := ⟨_, List.getElem?_eq_getElem (by omega)⟩
    rw [selTo_yes hx (bitI_zero k), selTo_no hx (by rw [bitI_zero]; omega), a, b, List.take_add_one, hx]
    exact ⟨rfl, rfl⟩
theorem splitEnd_zero (h1 : chargesOk xs = true) (h2 : furnOk r p = true) : splitEnd xs r p 0 = passEnd xs r p := by
  obtain ⟨f1, _⟩ := furnOk_iff.1 h2
  obtain ⟨R, rfl⟩ : ∃ R : Nat, r = (R : Int) := ⟨r.toNat, by omega⟩
  have hp := pow2_bounds (chargesOk_len h1)
  obtain ⟨a, b⟩ := selTo_all (xs := xs) xs.length (Nat.le_refl _)
  rw [splitEnd_4 rfl h1 h2 (inB_true (by omega) (by omega)), a, b, List.take_length]
  have e : passEnd [] (R : Int) p = 0 := by
    rw [passEnd_ok (by rw [h2]; rfl)]; rfl
  have := passEnd_nonneg h1 h2
  rw [e, mx]; split <;> omega
theorem splitEnd_ok_nonneg (h1 : chargesOk xs = true) (h2 : furnOk r p = true) (h3 : inB s 0 (2 ^ xs.length - 1) = true) : 0 ≤ splitEnd xs r p s := by
  obtain ⟨f1, _⟩ := furnOk_iff.1 h2
  obtain ⟨R, rfl⟩ : ∃ R : Nat, r = (R : Int) := ⟨r.toNat, by omega⟩
  rw [splitEnd_4 rfl h1 h2 h3]
  have := passEnd_nonneg (selTo_charges (s := s) (b := 0) h1 (Nat.le_refl _)) h2
  exact Int.le_trans this (le_mx_left _ _)
theorem splitEnd_neg (h : splitEnd xs r p s < 0) : splitEnd xs r p s = -1 := by
  cases h1 : chargesOk xs
  · exact splitEnd_1 h1
  cases h2 : furnOk r p
  · exact splitEnd_2 h2
  cases h3 : inB s 0 (2 ^ xs.length - 1)
  · exact splitEnd_3 rfl h3
  · have := splitEnd_ok_nonneg h1 h2 h3; omega
theorem splitEnd_valid (h : 0 ≤ splitEnd xs r p s) : chargesOk xs = true ∧ furnOk r p = true ∧ inB s 0 (2 ^ xs.length - 1) = true := by
  cases h1 : chargesOk xs
  · rw [splitEnd_1 h1] at h; omega
  cases h2 : furnOk r p
  · rw [splitEnd_2 h2] at h; omega
  cases h3 : inB s 0 (2 ^ xs.length - 1)
  · rw [splitEnd_3 rfl h3] at h; omega
  · exact ⟨rfl, rfl, rfl⟩
theorem bestSet_best (xs : List (Int × Int)) (r p : Int) (k : Nat) : ∀ j, j < k → splitEnd xs r p (bestSet xs r p k) ≤ splitEnd xs r p j := by
  induction k with
  | zero => intro j hj; omega
  | succ k ih =>
    intro j hj
    rw [bestSet]
    split
    · rename_i hc
      by_cases e : j = k
      · subst e; exact Int.le_refl _
      · have := ih j (by omega); omega
    · rename_i hc
      by_cases e : j = k
      · subst e; omega
      · exact ih j (by omega)
/-- no way to share is earlier -/
theorem splitBest_least (h : 0 ≤ splitEnd xs r p s) : 0 ≤ splitEnd xs r p (splitBest xs r p) ∧ splitEnd xs r p (splitBest xs r p) ≤ splitEnd xs r p s := by
  obtain ⟨h1, h2, h3⟩ := splitEnd_valid h
  obtain ⟨a, b⟩ := inB_iff.1 h3
  obtain ⟨S, rfl⟩ : ∃ S : Nat, s = (S : Int) := ⟨s.toNat, by omega⟩
  have e : ((2 : Int) ^ xs.length) = ((2 ^ xs.length : Nat) : Int) := by simp
  have hp : 0 < 2 ^ xs.length := Nat.two_pow_pos _
  rw [splitBest_3 rfl h1 h2]
  constructor
  · refine splitEnd_ok_nonneg h1 h2 (inB_true (by omega) ?_)
    obtain ⟨j, hj⟩ : ∃ j, 2 ^ xs.length = j + 1 := ⟨2 ^ xs.length - 1, by omega⟩
    have := bestSet_lt xs r p j
    rw [e, hj]; omega
  · exact bestSet_best xs r p _ S (by rw [e] at b; omega)
end
end Go.Proofs.YtiddlpgpbafdmaaDoor
