/- Plain law: what the laws on the furnace's heat say beside 'the same as the reference'. -/
import Derived.Test.YtiddlpgpbafdmaaDoorInts
namespace Go.Proofs.YtiddlpgpbafdmaaDoor
set_option linter.unusedVariables false
theorem step_one (f h : Int) : step f 1 h = f := by unfold step; omega
theorem heatStep_bad {h f p : Int} (hx : heatStep h f p < 0) : hsOk h f p = false ∧ heatStep h f p = -1 := by
  cases hv : hsOk h f p
  · exact ⟨rfl, heatStep_no hv⟩
  · have := heatStep_nonneg hv; omega
theorem heatStep_law {h f p : Int} (hx : 0 ≤ heatStep h f p) : hsOk h f p = true ∧ heatStep h f p ≤ f ∧ (h < heatStep h f p ∨ h = f) ∧ (h = f ∨ heatStep h f p ≤ heatStep (h + 1) f p) ∧ heatStep h f 1 = f ∧ 0 ≤ h ∧ h ≤ f ∧ f ≤ 1500 := by
  cases hv : hsOk h f p
  · rw [heatStep_no hv] at hx; omega
  · obtain ⟨a, b, h0, h1, hp, c⟩ := hsOk_iff.1 hv
    have s := step_bounds (f := f) (p := p) (h := h) h0 h1 hp
    have h11 : hsOk h f 1 = true := hsOk_iff.2 ⟨a, b, h0, h1, by omega, by omega⟩
    rw [heatStep_ok hv, heatStep_ok h11, step_one]
    refine ⟨rfl, s.2, ?_, ?_, rfl, h0, h1, b⟩
    · by_cases e : h = f
      · exact .inr e
      · exact .inl (step_gt (by omega) hp)
    · by_cases e : h = f
      · exact .inl e
      · have hv2 : hsOk (h + 1) f p = true := hsOk_iff.2 ⟨a, b, by omega, by omega, hp, c⟩
        rw [heatStep_ok hv2]
        exact .inr (step_mono_h (by omega) (by omega) hp)
theorem heatIt_add (f p : Int) (a b : Nat) (h : Int) : heatIt f p (a + b) h = heatIt f p b (heatIt f p a h) := by
  induction a generalizing h with
  | zero => rw [Nat.zero_add]; rfl
  | succ a ih => rw [show a + 1 + b = (a + b) + 1 by omega, heatIt, heatIt, ih]
theorem heatAfter_ok {h f p n : Int} (h1 : hsOk h f p = true) (h2 : inB n 0 999 = true) : heatAfter h f p n = heatIt f p n.toNat h := by simp [heatAfter, h1, h2]
theorem heatAfter_valid {h f p n : Int} (hx : 0 ≤ heatAfter h f p n) : hsOk h f p = true ∧ inB n 0 999 = true := by
  unfold heatAfter at hx
  split at hx
  · rename_i h; simpa using h
  · omega
theorem heatAfter_bad {h f p n : Int} (hx : heatAfter h f p n < 0) : heatAfter h f p n = -1 := by
  by_cases hc : (hsOk h f p && inB n 0 999) = true
  · simp only [Bool.and_eq_true] at hc
    rw [heatAfter_ok hc.1 hc.2] at hx
    obtain ⟨_, _, h0, h1, hp, _⟩ := hsOk_iff.1 hc.1
    have := heatIt_bounds (f := f) (p := p) (h := h) n.toNat h0 h1 hp
    omega
  · unfold heatAfter; rw [if_neg hc]
theorem heatAfter_law {h f p n : Int} (hx : 0 ≤ heatAfter h f p n) : 0 ≤ n ∧ n ≤ 999 ∧ heatAfter (heatAfter h f p (n / 2)) f p (n - n / 2) = heatAfter h f p n ∧ h ≤ heatAfter h f p n ∧ heatAfter h f p n ≤ f ∧ 0 ≤ f ∧ f ≤ 1500 ∧ 0 ≤ h ∧ h ≤ f ∧ (f = 1500 ∨ heatAfter h f p n ≤ heatAfter h (f + 1) p n) := by
  obtain ⟨hv, hn⟩ := heatAfter_valid hx
  obtain ⟨a, b, h0, h1, hp, c⟩ := hsOk_iff.1 hv
  obtain ⟨n0, n1⟩ := inB_iff.1 hn
  have s := heatIt_bounds (f := f) (p := p) (h := h) n.toNat h0 h1 hp
  have e1 : heatAfter h f p (n / 2) = heatIt f p (n / 2).toNat h := heatAfter_ok hv (inB_true (by omega) (by omega))
  have s1 := heatIt_bounds (f := f) (p := p) (h := h) (n / 2).toNat h0 h1 hp
  have hv1 : hsOk (heatIt f p (n / 2).toNat h) f p = true := hsOk_it hv _
  have e2 : heatAfter (heatAfter h f p (n / 2)) f p (n - n / 2) = heatAfter h f p n := by
    rw [e1, heatAfter_ok hv1 (inB_true (by omega) (by omega)), heatAfter_ok hv hn, ← heatIt_add]
    congr 1; omega
  refine ⟨n0, n1, e2, ?_, ?_, a, b, h0, h1, ?_⟩
  · rw [heatAfter_ok hv hn]; exact s.1
  · rw [heatAfter_ok hv hn]; exact s.2
  · by_cases e : f = 1500
    · exact .inl e
    · exact .inr (heatAfter_mono h0 h1 (by omega) (by omega) hp c n0 n1)
/-! ### how many minutes at most: what is missing shrinks at least as fast as by the greatest divisor -/
def missing (d : Nat) : Nat := d - (d + 98) / 99
def missIt : Nat → Nat → Nat
  | 0, d => d
  | k + 1, d => missIt k (missing d)
theorem missIt_zero : missIt 999 1500 = 0 := by decide +kernel
theorem missing_mono {a b : Nat} (h : a ≤ b) : missing a ≤ missing b := by unfold missing; omega
theorem missIt_mono (k : Nat) : ∀ {a b : Nat}, a ≤ b → missIt k a ≤ missIt k b := by
  induction k with
  | zero => intro a b h; exact h
  | succ k ih => intro a b h; exact ih (missing_mono h)
theorem missIt_succ (k d : Nat) : missIt (k + 1) d = missing (missIt k d) := by
  induction k generalizing d with
  | zero => rfl
  | succ k ih => rw [missIt, ih]; rfl
theorem step_missing {f p h : Int} (h1 : h ≤ f) (hp : 1 ≤ p) (hp2 : p ≤ 99) : (f - step f p h).toNat ≤ missing (f - h).toNat := by
  have hb : (f - h + 98) / 99 ≤ (f - h + p - 1) / p := by
    rw [Int.le_ediv_iff_mul_le (by omega)]
    have hq : 0 ≤ (f - h + 98) / 99 := Int.ediv_nonneg (by omega) (by omega)
    generalize hqq : (f - h + 98) / 99 = q at *
    have h99 : q * 99 ≤ f - h + 98 := by omega
    by_cases q0 : q = 0
    · subst q0; omega
    · have : q * p ≤ q * p + (q - 1) * (99 - p) := by
        have := Int.mul_nonneg (a := q - 1) (b := 99 - p) (by omega) (by omega); omega
      have e : q * p + (q - 1) * (99 - p) = q * 99 - (99 - p) := by
        rw [Int.sub_mul, Int.one_mul, Int.mul_sub]; omega
      omega
  unfold step missing
  have : ((f - h).toNat + 98) / 99 = ((f - h + 98) / 99).toNat := by omega
  omega
theorem heatIt_missing {f p h : Int} (h0 : 0 ≤ h) (h1 : h ≤ f) (hp : 1 ≤ p) (hp2 : p ≤ 99) (k : Nat) : (f - heatIt f p k h).toNat ≤ missIt k (f - h).toNat := by
  induction k with
  | zero => exact Nat.le_refl _
  | succ k ih =>
    rw [heatIt_succ, missIt_succ]
    have b := heatIt_bounds (f := f) (p := p) (h := h) k h0 h1 hp
    exact Nat.le_trans (step_missing b.2 hp hp2) (missing_mono ih)
theorem heatIt_full {f p h : Int} (h0 : 0 ≤ h) (h1 : h ≤ f) (hf : f ≤ 1500) (hp : 1 ≤ p) (hp2 : p ≤ 99) : heatIt f p 999 h = f := by
  have a := heatIt_missing h0 h1 hp hp2 999
  have b := missIt_mono 999 (a := (f - h).toNat) (b := 1500) (by omega)
  rw [missIt_zero] at b
  have c := heatIt_bounds (f := f) (p := p) (h := h) 999 h0 h1 hp
  omega
theorem mins_facts {f p w : Int} (hp : 1 ≤ p) (hwf : w ≤ f) : ∀ (k : Nat) (h : Int), 0 ≤ h → h ≤ f → (w - h).toNat ≤ k → w ≤ heatIt f p (mins f p w h).toNat h ∧ 0 ≤ mins f p w h ∧ ∀ j : Nat, (j : Int) < mins f p w h → heatIt f p j h < w := by
  intro k
  induction k with
  | zero =>
    intro h h0 h1 hk
    rw [mins_done (by omega)]
    exact ⟨by show w ≤ h; omega, Int.le_refl _, fun j hj => by omega⟩
  | succ k ih =>
    intro h h0 h1 hk
    by_cases hlt : h < w
    · have g := step_gt (f := f) (p := p) (h := h) (by omega) hp
      have b := step_bounds (f := f) (p := p) (h := h) h0 h1 hp
      obtain ⟨x, y, z⟩ := ih (step f p h) (by omega) b.2 (by omega)
      rw [mins_step hp hwf hlt]
      refine ⟨?_, by omega, fun j hj => ?_⟩
      · rw [show (1 + mins f p w (step f p h)).toNat = (mins f p w (step f p h)).toNat + 1 by omega, heatIt]; exact x
      · cases j with
        | zero => exact hlt
        | succ j => rw [heatIt]; exact z j (by omega)
    · rw [mins_done (by omega)]
      exact ⟨by show w ≤ h; omega, Int.le_refl _, fun j hj => by omega⟩
theorem heatMinutes_bad {h f p w : Int} (hx : heatMinutes h f p w < 0) : heatMinutes h f p w = -1 := by
  by_cases hc : (hsOk h f p && inB w 0 f) = true
  · simp only [Bool.and_eq_true] at hc
    obtain ⟨_, _, h0, h1, hp, _⟩ := hsOk_iff.1 hc.1
    have hw := inB_iff.1 hc.2
    have := (mins_facts (p := p) hp hw.2 _ h h0 h1 (Nat.le_refl _)).2.1
    simp only [heatMinutes, hc.1, hc.2, Bool.and_self, if_true] at hx
    omega
  · unfold heatMinutes; rw [if_neg hc]
theorem heatMinutes_law {h f p w : Int} (hx : 0 ≤ heatMinutes h f p w) : heatMinutes h f p w ≤ 999 ∧ w ≤ heatAfter h f p (heatMinutes h f p w) ∧ (heatMinutes h f p w = 0 ∨ heatAfter h f p (heatMinutes h f p w - 1) < w) := by
  by_cases hc : (hsOk h f p && inB w 0 f) = true
  · have e : heatMinutes h f p w = mins f p w h := by unfold heatMinutes; rw [if_pos hc]
    simp only [Bool.and_eq_true] at hc
    obtain ⟨a, b, h0, h1, hp, c⟩ := hsOk_iff.1 hc.1
    obtain ⟨w0, w1⟩ := inB_iff.1 hc.2
    obtain ⟨x, y, z⟩ := mins_facts (p := p) hp w1 _ h h0 h1 (Nat.le_refl _)
    rw [e]
    have h999 : mins f p w h ≤ 999 := by
      by_cases hlt : (999 : Int) < mins f p w h
      · have := z 999 hlt
        rw [heatIt_full h0 h1 b hp c] at this; omega
      · omega
    refine ⟨h999, ?_, ?_⟩
    · rw [heatAfter_ok hc.1 (inB_true y h999)]; exact x
    · by_cases e0 : mins f p w h = 0
      · exact .inl e0
      · right
        rw [heatAfter_ok hc.1 (inB_true (by omega) (by omega))]
        exact z _ (by omega)
  · unfold heatMinutes at hx; rw [if_neg hc] at hx; omega
theorem search_facts {h p w n : Int} : ∀ (k : Nat) (f : Int), search h p w n k f = -1 ∨ (f ≤ search h p w n k f ∧ search h p w n k f < f + k ∧ w ≤ heatAfter h (search h p w n k f) p n ∧ ∀ y, f ≤ y → y < search h p w n k f → heatAfter h y p n < w) := by
  intro k
  induction k with
  | zero => intro f; exact .inl rfl
  | succ k ih =>
    intro f
    rw [search]
    split
    · rename_i hw
      exact .inr ⟨Int.le_refl _, by omega, hw, fun y a b => by omega⟩
    · rename_i hw
      rcases ih (f + 1) with e | ⟨a, b, c, d⟩
      · exact .inl e
      · refine .inr ⟨by omega, by omega, c, fun y y1 y2 => ?_⟩
        by_cases e : y = f
        · subst e; omega
        · exact d y (by omega) y2
theorem heatLeast_law {h p w n : Int} : heatLeast h p w n = -1 ∨ (0 ≤ w ∧ w ≤ heatLeast h p w n ∧ heatLeast h p w n ≤ 1500 ∧ w ≤ heatAfter h (heatLeast h p w n) p n ∧ (heatLeast h p w n = w ∨ heatAfter h (heatLeast h p w n - 1) p n < w)) := by
  by_cases hv : hlOk h p w n = true
  · have e : heatLeast h p w n = search h p w n (1501 - w).toNat w := by unfold heatLeast; rw [if_pos hv]
    obtain ⟨v1, v2, _⟩ := hlOk_iff.1 hv
    rw [e]
    rcases search_facts (h := h) (p := p) (w := w) (n := n) (1501 - w).toNat w with a | ⟨a, b, c, d⟩
    · exact .inl a
    · refine .inr ⟨v1, a, by omega, c, ?_⟩
      by_cases e0 : search h p w n (1501 - w).toNat w = w
      · exact .inl e0
      · exact .inr (d _ (by omega) (by omega))
  · left; unfold heatLeast; rw [if_neg hv]
end Go.Proofs.YtiddlpgpbafdmaaDoor
