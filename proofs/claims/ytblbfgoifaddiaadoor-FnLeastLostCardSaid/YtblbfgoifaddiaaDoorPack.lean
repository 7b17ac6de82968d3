/- Plain law: packing things into bins. Sums over the first n numbers, packings, and the least number of bins. No program in sight. -/
import Derived.Below
namespace Go.Proofs.YtblbfgoifaddiaaDoor
set_option linter.unusedVariables false
/-- the sum of g over 0..n-1 -/
def sm : Nat → (Nat → Int) → Int
  | 0, _ => 0
  | n + 1, g => sm n g + g n
theorem sm_congr {n : Nat} {g h : Nat → Int} (e : ∀ i, i < n → g i = h i) : sm n g = sm n h := by
  induction n with
  | zero => rfl
  | succ n ih => rw [sm, sm, ih (fun i hi => e i (by omega)), e n (by omega)]
theorem sm_add (n : Nat) (g h : Nat → Int) : sm n (fun i => g i + h i) = sm n g + sm n h := by
  induction n with
  | zero => rfl
  | succ n ih => simp only [sm, ih]; omega
theorem sm_le {n : Nat} {g h : Nat → Int} (e : ∀ i, i < n → g i ≤ h i) : sm n g ≤ sm n h := by
  induction n with
  | zero => exact Int.le_refl _
  | succ n ih =>
    have := ih (fun i hi => e i (by omega))
    have := e n (by omega)
    simp only [sm]; omega
theorem sm_zero (n : Nat) : sm n (fun _ => 0) = 0 := by
  induction n with
  | zero => rfl
  | succ n ih => simp only [sm, ih]; omega
theorem sm_const (n : Nat) (c : Int) : sm n (fun _ => c) = n * c := by
  induction n with
  | zero => simp [sm]
  | succ n ih => simp only [sm, ih]; rw [Int.natCast_add, Int.add_mul]; omega
theorem sm_nonneg {n : Nat} {g : Nat → Int} (h : ∀ i, i < n → 0 ≤ g i) : 0 ≤ sm n g := by
  have := sm_le (n := n) (g := fun _ => 0) (h := g) h
  rwa [sm_zero] at this
theorem sm_one {n k : Nat} {x : Int} (hk : k < n) : sm n (fun i => if i = k then x else 0) = x := by
  induction n with
  | zero => omega
  | succ n ih =>
    simp only [sm]
    by_cases e : k = n
    · subst e
      rw [sm_congr (h := fun _ => 0) (fun i hi => by rw [if_neg (by omega)]), sm_zero]; simp
    · rw [ih (by omega), if_neg (by omega)]; omega
theorem sm_swap (n m : Nat) (g : Nat → Nat → Int) : sm n (fun i => sm m (fun j => g i j)) = sm m (fun j => sm n (fun i => g i j)) := by
  induction n with
  | zero => simp only [sm]; rw [sm_zero]
  | succ n ih => simp only [sm, ih, sm_add]
/-- one term is at most the sum -/
theorem sm_term {n k : Nat} {g : Nat → Int} (h : ∀ i, i < n → 0 ≤ g i) (hk : k < n) : g k ≤ sm n g := by
  have h1 : sm n (fun i => if i = k then g k else 0) ≤ sm n g := sm_le fun i hi => by
    by_cases e : i = k
    · subst e; simp
    · rw [if_neg e]; exact h i hi
  rwa [sm_one hk] at h1

/-- what stands in bin b together -/
def load (n : Nat) (w : Nat → Int) (S : Nat → Bool) (f : Nat → Nat) (b : Nat) : Int := sm n fun i => if S i = true ∧ f i = b then w i else 0
def tot (n : Nat) (w : Nat → Int) (S : Nat → Bool) : Int := sm n fun i => if S i = true then w i else 0
def Packs (n : Nat) (w : Nat → Int) (L : Int) (S : Nat → Bool) (m : Nat) : Prop := ∃ f : Nat → Nat, (∀ i, i < n → S i = true → f i < m) ∧ ∀ b, b < m → load n w S f b ≤ L
def IsOpt (n : Nat) (w : Nat → Int) (L : Int) (S : Nat → Bool) (m : Nat) : Prop := Packs n w L S m ∧ ∀ m', Packs n w L S m' → m ≤ m'
/-- things are at least 1 and fit into a bin -/
def Fits (n : Nat) (w : Nat → Int) (L : Int) : Prop := ∀ i, i < n → 1 ≤ w i ∧ w i ≤ L
section
variable {n : Nat} {w : Nat → Int} {L : Int}
theorem Packs.congr {S S' : Nat → Bool} {m : Nat} (h : Packs n w L S m) (e : ∀ i, i < n → S i = S' i) : Packs n w L S' m := by
  obtain ⟨f, h1, h2⟩ := h
  refine ⟨f, fun i hi hs => h1 i hi (by rw [e i hi]; exact hs), fun b hb => ?_⟩
  have : load n w S' f b = load n w S f b := sm_congr fun i hi => by simp only [e i hi]
  rw [this]; exact h2 b hb
theorem IsOpt.congr {S S' : Nat → Bool} {m : Nat} (h : IsOpt n w L S m) (e : ∀ i, i < n → S i = S' i) : IsOpt n w L S' m :=
  ⟨h.1.congr e, fun m' h' => h.2 m' (h'.congr fun i hi => (e i hi).symm)⟩
theorem IsOpt.unique {S : Nat → Bool} {m m' : Nat} (h : IsOpt n w L S m) (h' : IsOpt n w L S m') : m = m' := by
  have := h.2 _ h'.1
  have := h'.2 _ h.1
  omega
/-- more bins do no harm -/
theorem Packs.more {S : Nat → Bool} {m m' : Nat} (hL : 0 ≤ L) (h : Packs n w L S m) (hm : m ≤ m') : Packs n w L S m' := by
  obtain ⟨f, h1, h2⟩ := h
  refine ⟨f, fun i hi hs => by have := h1 i hi hs; omega, fun b hb => ?_⟩
  by_cases hbm : b < m
  · exact h2 b hbm
  · have : load n w S f b = 0 := by
      rw [load, sm_congr (h := fun _ => 0), sm_zero]
      intro i hi
      rw [if_neg]
      rintro ⟨hs, e⟩
      have := h1 i hi hs; omega
    omega
/-- fewer things too -/
theorem Packs.fewer {S T : Nat → Bool} {m : Nat} (hw : Fits n w L) (h : Packs n w L S m) (hT : ∀ i, i < n → T i = true → S i = true) : Packs n w L T m := by
  obtain ⟨f, h1, h2⟩ := h
  refine ⟨f, fun i hi hs => h1 i hi (hT i hi hs), fun b hb => ?_⟩
  refine Int.le_trans (sm_le fun i hi => ?_) (h2 b hb)
  have := hw i hi
  by_cases a : T i = true ∧ f i = b
  · rw [if_pos a, if_pos ⟨hT i hi a.1, a.2⟩]; exact Int.le_refl _
  · rw [if_neg a]; split <;> omega
theorem Packs.each {S : Nat → Bool} (hw : Fits n w L) : Packs n w L S n := by
  refine ⟨fun i => i, fun i hi _ => hi, fun b hb => ?_⟩
  have h1 : load n w S (fun i => i) b ≤ sm n (fun i => if i = b then w b else 0) := sm_le fun i hi => by
    have := hw i hi
    by_cases e : i = b
    · subst e; simp; split <;> omega
    · rw [if_neg e, if_neg (by rintro ⟨_, h⟩; exact e h)]; omega
  rw [sm_one hb] at h1
  exact Int.le_trans h1 (hw b hb).2
theorem opt_exists (hw : Fits n w L) (S : Nat → Bool) : ∃ m, IsOpt n w L S m := by
  have key : ∀ k, (∃ m, m ≤ k ∧ Packs n w L S m) → ∃ m, IsOpt n w L S m := by
    intro k
    induction k with
    | zero =>
      rintro ⟨m, hm, hp⟩
      obtain rfl : m = 0 := by omega
      exact ⟨0, hp, fun _ _ => Nat.zero_le _⟩
    | succ k ih =>
      rintro ⟨m, hm, hp⟩
      by_cases h : ∃ m, m ≤ k ∧ Packs n w L S m
      · exact ih h
      · refine ⟨m, hp, fun m' hp' => ?_⟩
        rcases Nat.lt_or_ge m' m with hlt | hge
        · exact absurd ⟨m', by omega, hp'⟩ h
        · exact hge
  exact key n ⟨n, Nat.le_refl _, Packs.each hw⟩
theorem IsOpt.le {S : Nat → Bool} {m : Nat} (hw : Fits n w L) (h : IsOpt n w L S m) : m ≤ n := h.2 _ (Packs.each hw)
theorem opt_empty {S : Nat → Bool} (h : ∀ i, i < n → S i = false) : IsOpt n w L S 0 :=
  ⟨⟨fun _ => 0, ⟨(fun i hi hs => by rw [h i hi] at hs; cases hs), fun b hb => absurd hb (Nat.not_lt_zero _)⟩⟩, fun _ _ => Nat.zero_le _⟩
theorem Packs.pos {S : Nat → Bool} {m k : Nat} (h : Packs n w L S m) (hk : k < n) (hs : S k = true) : 1 ≤ m := by
  obtain ⟨f, h1, _⟩ := h
  have := h1 k hk hs; omega
/-- all things together fit into all bins -/
theorem Packs.tot_le {S : Nat → Bool} {m : Nat} (h : Packs n w L S m) : tot n w S ≤ m * L := by
  obtain ⟨f, h1, h2⟩ := h
  have e : tot n w S = sm m (fun b => load n w S f b) := by
    unfold load tot
    rw [← sm_swap]
    refine sm_congr fun i hi => ?_
    by_cases hs : S i = true
    · rw [if_pos hs, sm_congr (h := fun b => if b = f i then w i else 0), sm_one (h1 i hi hs)]
      intro b hb
      by_cases e : b = f i
      · rw [if_pos e, if_pos ⟨hs, e.symm⟩]
      · rw [if_neg e, if_neg (fun h => e h.2.symm)]
    · rw [if_neg hs, sm_congr (h := fun _ => 0), sm_zero]
      intro b hb
      rw [if_neg (fun h => hs h.1)]
  rw [e, ← sm_const]
  exact sm_le h2
/-! ### the program's way: a set is a first bin, which has a chosen thing, and the rest -/
theorem Packs.bin {S T : Nat → Bool} {m : Nat} (hT : ∀ i, i < n → T i = true → S i = true) (hL : tot n w T ≤ L) (h : Packs n w L (fun i => S i && !T i) m) : Packs n w L S (m + 1) := by
  obtain ⟨f, h1, h2⟩ := h
  refine ⟨fun i => if T i = true then m else f i, fun i hi hs => ?_, fun b hb => ?_⟩
  · by_cases t : T i = true
    · simp only [t, if_true]; omega
    · have := h1 i hi (by simp [hs, t])
      simp only [t]; simp; omega
  · by_cases e : b = m
    · refine Int.le_trans (Int.le_of_eq (sm_congr fun i hi => ?_)) hL
      by_cases t : T i = true
      · simp only [t, if_true, e, hT i hi t, and_self]
      · rw [if_neg t, if_neg]
        rintro ⟨hs, h⟩
        have := h1 i hi (by simp [hs, t])
        simp only [t] at h; simp at h; omega
    · refine Int.le_trans (Int.le_of_eq (sm_congr fun i hi => ?_)) (h2 b (by omega))
      by_cases t : T i = true
      · simp only [t, if_true]
        rw [if_neg (by rintro ⟨_, h⟩; omega), if_neg (by simp)]
      · simp [t]
theorem Packs.first {S : Nat → Bool} {m k : Nat} (hk : k < n) (hs : S k = true) (h : Packs n w L S (m + 1)) : ∃ T : Nat → Bool, (∀ i, i < n → T i = true → S i = true) ∧ T k = true ∧ tot n w T ≤ L ∧ Packs n w L (fun i => S i && !T i) m := by
  obtain ⟨f, h1, h2⟩ := h
  have hfk := h1 k hk hs
  refine ⟨fun i => S i && decide (f i = f k), fun i hi h => by simp at h; exact h.1, by simp [hs], ?_, fun i => if f i = m then f k else f i, fun i hi h => ?_, fun b hb => ?_⟩
  · refine Int.le_trans (Int.le_of_eq (sm_congr fun i hi => ?_)) (h2 (f k) hfk)
    simp
  · simp at h
    have := h1 i hi h.1
    show (if f i = m then f k else f i) < m
    by_cases e : f i = m
    · rw [if_pos e]
      have : f i ≠ f k := fun he => by simp [h.1, he] at h
      omega
    · rw [if_neg e]; omega
  · by_cases hb2 : b = f k
    · subst hb2
      refine Int.le_trans (Int.le_of_eq (sm_congr fun i hi => ?_)) (h2 m (by omega))
      by_cases e : f i = m
      · have : ¬ (m = f k) := by omega
        simp [e, this]
      · simp only [e, if_false, and_false]
        rw [if_neg]
        rintro ⟨h, h'⟩
        simp at h
        exact absurd h' (by intro he; simp [h.1, he] at h)
    · refine Int.le_trans (Int.le_of_eq (sm_congr fun i hi => ?_)) (h2 b (by omega))
      by_cases e : f i = m
      · have h3 : ¬ (m = b) := by omega
        have h4 : ¬ (f k = b) := fun h => hb2 h.symm
        simp [e, h3, h4]
      · by_cases e2 : f i = b
        · have : ¬ (b = f k) := hb2
          simp [e2, this, show ¬ b = m by omega]
        · simp [e, e2]
end
end Go.Proofs.YtblbfgoifaddiaaDoor
