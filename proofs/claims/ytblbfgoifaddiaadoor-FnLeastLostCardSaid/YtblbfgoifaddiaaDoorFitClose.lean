/- Plain law: first-fit by descending lengths needs at most one bin more than the least number, for at most eight things. -/
import Derived.Test.YtblbfgoifaddiaaDoorPackLex
namespace Go.Proofs.YtblbfgoifaddiaaDoor
set_option linter.unusedVariables false
section
variable {n m : Nat} {w : Nat → Int} {L : Int}
theorem sm_two {n i j : Nat} {g : Nat → Int} (h : ∀ i, i < n → 0 ≤ g i) (hi : i < n) (hj : j < n) (hne : i ≠ j) : g i + g j ≤ sm n g := by
  have e : sm n (fun k => (if k = i then g i else 0) + (if k = j then g j else 0)) ≤ sm n g := sm_le fun k hk => by
    have := h k hk
    by_cases a : k = i
    · subst a; simp [hne]
    · by_cases b : k = j
      · subst b; simp [a]
      · simp [a, b]; exact this
  rw [sm_add, sm_one hi, sm_one hj] at e
  exact e
theorem sm_mul (n : Nat) (a : Int) (g : Nat → Int) : sm n (fun i => a * g i) = a * sm n g := by
  induction n with
  | zero => simp [sm]
  | succ n ih => simp only [sm, ih, Int.mul_add]
theorem load_scale (a : Int) (S : Nat → Bool) (g : Nat → Nat) (b : Nat) : load n (fun _ => a) S g b = a * load n (fun _ => 1) S g b := by
  unfold load
  rw [← sm_mul]
  refine sm_congr fun i hi => ?_
  by_cases h : S i = true ∧ g i = b <;> simp [h]
theorem load_le {w w' : Nat → Int} {S : Nat → Bool} {g : Nat → Nat} {b : Nat} (h : ∀ i, i < n → S i = true → g i = b → w i ≤ w' i) : load n w S g b ≤ load n w' S g b := by
  unfold load
  refine sm_le fun i hi => ?_
  by_cases hs : S i = true ∧ g i = b
  · rw [if_pos hs, if_pos hs]; exact h i hi hs.1 hs.2
  · rw [if_neg hs, if_neg hs]; exact Int.le_refl _
theorem loads_le {S : Nat → Bool} {g : Nat → Nat} (h : ∀ i, i < n → 0 ≤ w i) (M : Nat) : sm M (fun b => load n w S g b) ≤ tot n w S := by
  unfold load tot
  rw [← sm_swap]
  refine sm_le fun i hi => ?_
  have h0 := h i hi
  by_cases hs : S i = true
  · rw [if_pos hs]
    by_cases hg : g i < M
    · rw [sm_congr (h := fun b => if b = g i then w i else 0), sm_one hg]
      · exact Int.le_refl _
      intro b hb
      by_cases e : b = g i
      · rw [if_pos e, if_pos ⟨hs, e.symm⟩]
      · rw [if_neg e, if_neg (fun h => e h.2.symm)]
    · rw [sm_congr (h := fun _ => 0), sm_zero]
      · exact h0
      intro b hb
      rw [if_neg (fun h => by have := h.2; omega)]
  · rw [if_neg hs, sm_congr (h := fun _ => 0), sm_zero]
    · exact Int.le_refl _
    intro b hb
    rw [if_neg (fun h => hs h.1)]
theorem fit_close (hn : n ≤ 8) (hw : Fits n w L) {S : Nat → Bool} {k : Nat} (hk : k < n) (hS : S k = false) {g : Nat → Nat} (hx : ∀ i, i < n → S i = true → w k ≤ w i)
    (hb : ∀ b, b ≤ m → L < load n w S g b + w k ∧ load n w S g b ≤ L) (hp : Packs n w L (fun _ => true) m) : False := by
  obtain ⟨x1, x2⟩ := hw k hk
  obtain ⟨f, f1, f2⟩ := hp
  generalize hxe : w k = x at *
  let c : Nat → Int := fun b => load n (fun _ => 1) S g b
  have hc0 : ∀ b, 0 ≤ c b := fun b => sm_nonneg fun i hi => by (split; exact (by decide : (0 : Int) ≤ 1); exact Int.le_refl _)
  have hcL : ∀ b, load n w S g b ≤ L * c b := fun b => by
    have := load_le (n := n) (w := w) (w' := fun _ => L) (S := S) (g := g) (b := b) (fun i hi _ _ => (hw i hi).2)
    rwa [load_scale] at this
  have hcx : ∀ b, x * c b ≤ load n w S g b := fun b => by
    have := load_le (n := n) (w := fun _ => x) (w' := w) (S := S) (g := g) (b := b) (fun i hi hs _ => hx i hi hs)
    rwa [load_scale] at this
  have hc1 : ∀ b, b ≤ m → 1 ≤ c b := fun b hbm => by
    have h1 := hcL b
    have h2 := (hb b hbm).1
    have h3 := hc0 b
    rcases Int.lt_or_eq_of_le h3 with h | h
    · omega
    · rw [← h] at h1; omega
  let sg : Nat → Bool := fun i => S i && (decide (g i ≤ m) && decide (c (g i) = 1))
  have sgk : sg k = false := by simp [sg, hS]
  let w' : Nat → Int := fun i => if sg i then L else w i
  have w'0 : ∀ i, i < n → w i ≤ w' i := fun i hi => by
    have := (hw i hi).2
    show w i ≤ if sg i then L else w i
    split <;> omega
  have w'1 : ∀ i, i < n → 0 ≤ w' i := fun i hi => by have := w'0 i hi; have := (hw i hi).1; omega
  let S' : Nat → Bool := fun i => S i || decide (i = k)
  -- a thing that is alone in its bin goes with no other
  have alone : ∀ i, i < n → sg i = true → ∀ j, j < n → j ≠ i → S' j = true → L < w i + w j := by
    intro i hi hs j hj hne hSj
    simp only [sg, Bool.and_eq_true, decide_eq_true_eq] at hs
    obtain ⟨s1, s2, s3⟩ := hs
    have hl : load n w S g (g i) = w i := by
      unfold load
      rw [sm_congr (h := fun j => if j = i then w i else 0), sm_one hi]
      intro q hq
      by_cases e : q = i
      · subst e; rw [if_pos ⟨s1, rfl⟩, if_pos rfl]
      · rw [if_neg e]
        by_cases hq2 : S q = true ∧ g q = g i
        · exfalso
          have h2 := sm_two (n := n) (i := i) (j := q) (g := fun p => if S p = true ∧ g p = g i then 1 else 0) (fun p hp => by split <;> omega) hi hq (fun h => e h.symm)
          simp only [s1, hq2, and_self, if_true] at h2
          have h3 : c (g i) = sm n (fun p => if S p = true ∧ g p = g i then 1 else 0) := rfl
          omega
        · rw [if_neg hq2]
    have h1 := (hb (g i) s2).1
    rw [hl] at h1
    have h2 : x ≤ w j := by
      simp only [S', Bool.or_eq_true, decide_eq_true_eq] at hSj
      rcases hSj with h | h
      · exact hx j hj h
      · subst h; omega
    omega
  have packs' : Packs n w' L S' m := by
    refine ⟨f, fun i hi _ => f1 i hi rfl, fun b hbm => ?_⟩
    have hfb := f2 b hbm
    by_cases hex : ∃ i, i < n ∧ sg i = true ∧ f i = b
    · obtain ⟨i, hi, hs, hfi⟩ := hex
      have hl : load n w' S' f b = L := by
        unfold load
        rw [sm_congr (h := fun j => if j = i then L else 0), sm_one hi]
        intro q hq
        by_cases e : q = i
        · subst e
          have hsq : S q = true := by simp only [sg, Bool.and_eq_true] at hs; exact hs.1
          rw [if_pos ⟨by simp [S', hsq], hfi⟩, if_pos rfl]
          show (if sg q then L else w q) = L
          rw [hs]; rfl
        · rw [if_neg e]
          by_cases hq2 : S' q = true ∧ f q = b
          · exfalso
            have h1 := alone i hi hs q hq e hq2.1
            have h2 := sm_two (n := n) (i := i) (j := q) (g := fun p => if (fun _ : Nat => true) p = true ∧ f p = b then w p else 0) (fun p hp => by (try dsimp only); (split; exact Int.le_trans (by decide) (hw p hp).1; exact Int.le_refl _)) hi hq (fun h => e h.symm)
            simp only [hfi, hq2.2, and_self, if_true] at h2
            unfold load at hfb
            simp only [true_and] at hfb h2
            omega
          · rw [if_neg hq2]
      rw [hl]; exact Int.le_refl _
    · refine Int.le_trans ?_ hfb
      unfold load
      refine sm_le fun i hi => ?_
      have h0 := (hw i hi).1
      by_cases hq : S' i = true ∧ f i = b
      · rw [if_pos hq, if_pos ⟨rfl, hq.2⟩]
        have : sg i = false := by
          cases h : sg i
          · rfl
          · exact absurd ⟨i, hi, h, hq.2⟩ hex
        show (if sg i then L else w i) ≤ w i
        rw [this]; exact Int.le_refl _
      · rw [if_neg hq]; split <;> omega
  have htot := packs'.tot_le
  have hsplit : tot n w' S' = tot n w' S + x := by
    unfold tot
    have e : sm n (fun i => if i = k then x else 0) = x := sm_one hk
    rw [← e, ← sm_add]
    refine sm_congr fun i hi => ?_
    by_cases ik : i = k
    · subst ik
      simp only [S', decide_true, Bool.or_true, if_true, hS, Bool.false_eq_true, if_false]
      show (if sg i then L else w i) = 0 + x
      rw [sgk]; simp [hxe]
    · simp [S', ik]
  have hge := loads_le (n := n) (w := w') (S := S) (g := g) w'1 (m + 1)
  let y1 : Nat → Int := fun b => if c b = 1 then 0 else 1
  have hbin : ∀ b, b < m + 1 → L + (-(x - 1)) * y1 b ≤ load n w' S g b := fun b hbm => by
    by_cases h1 : c b = 1
    · have e : load n w' S g b = load n (fun _ => L) S g b := sm_congr fun i hi => by
        by_cases hq : S i = true ∧ g i = b
        · rw [if_pos hq, if_pos hq]
          have : sg i = true := by simp only [sg, Bool.and_eq_true, decide_eq_true_eq]; exact ⟨hq.1, by omega, by rw [hq.2]; exact h1⟩
          show (if sg i then L else w i) = L
          rw [this]; rfl
        · rw [if_neg hq, if_neg hq]
      have e2 : load n (fun _ => L) S g b = L * c b := load_scale L S g b
      have e3 : y1 b = 0 := by simp only [y1, h1, if_true]
      rw [e, e2, h1, e3]; omega
    · have h2 := load_le (n := n) (w := w) (w' := w') (S := S) (g := g) (b := b) (fun i hi _ _ => w'0 i hi)
      have h3 := (hb b (by omega)).1
      have e3 : y1 b = 1 := by simp only [y1, h1, if_false]
      rw [e3]; omega
  have hsum := sm_le (n := m + 1) (g := fun b => L + (-(x - 1)) * y1 b) (h := fun b => load n w' S g b) hbin
  rw [sm_add, sm_const, sm_mul] at hsum
  have hy0 : 0 ≤ sm (m + 1) y1 := sm_nonneg fun b hb => by simp only [y1]; split <;> omega
  have hyc : sm (m + 1) (fun b => 1 + y1 b) ≤ sm (m + 1) c := sm_le fun b hbm => by
    have := hc1 b (by omega)
    simp only [y1]
    split <;> omega
  have hcc := loads_le (n := n) (w := fun _ => 1) (S := S) (g := g) (fun i hi => by decide) (m + 1)
  have hcn : tot n (fun _ => 1) S + 1 ≤ n := by
    have e : sm n (fun i => if i = k then (1 : Int) else 0) = 1 := sm_one hk
    have h1 : sm n (fun i => (if S i = true then (1 : Int) else 0) + (if i = k then 1 else 0)) ≤ sm n (fun _ => 1) := sm_le fun i hi => by
      by_cases ik : i = k
      · subst ik; simp [hS]
      · simp only [ik, if_false]; split <;> omega
    rw [sm_add, e, sm_const] at h1
    have e2 : tot n (fun _ => 1) S = sm n (fun i => if S i = true then (1 : Int) else 0) := rfl
    rw [e2]
    omega
  have hym : sm (m + 1) y1 ≤ sm (m + 1) (fun _ => 1) := sm_le fun b hbm => by simp only [y1]; split <;> omega
  rw [sm_const] at hym
  rw [sm_add, sm_const] at hyc
  have hccc : sm (m + 1) c ≤ tot n (fun _ => 1) S := hcc
  have h2x : sm (m + 1) y1 = 0 ∨ 2 * x ≤ L := by
    by_cases hall : ∀ b, b < m + 1 → c b = 1
    · left
      rw [sm_congr (h := fun _ => 0), sm_zero]
      intro b hbm
      simp only [y1, hall b hbm, if_true]
    · right
      have : ∃ b, b < m + 1 ∧ c b ≠ 1 := by
        refine Classical.byContradiction fun h => hall fun b hbm => Classical.byContradiction fun hne => h ⟨b, hbm, hne⟩
      obtain ⟨b, hbm, hne⟩ := this
      have h1 := hc1 b (by omega)
      have h2 := hcx b
      have h3 := (hb b (by omega)).2
      have h4 : x * 2 ≤ x * c b := Int.mul_le_mul_of_nonneg_left (by omega) (by omega)
      omega
  have hmL : (((m + 1 : Nat) : Int)) * L = (m : Int) * L + L := by rw [Int.natCast_add, Int.add_mul]; omega
  rw [hmL] at hsum
  rw [hsplit] at htot
  generalize sm (m + 1) y1 = y at *
  have hy7 : (m : Int) + 1 + y ≤ 7 := by omega
  have hyle : y ≤ 3 := by omega
  have hle : (m : Int) * L + L + -(x - 1) * y + x ≤ (m : Int) * L := by omega
  obtain h | h | h | h : y = 0 ∨ y = 1 ∨ y = 2 ∨ y = 3 := by omega
  all_goals (subst h; omega)
end
end Go.Proofs.YtblbfgoifaddiaaDoor
