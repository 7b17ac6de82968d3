/- Plain law: the reference's way to the least number of bins: bin after bin, with what stands in the last one. -/
import Derived.Test.YtblbfgoifaddiaaDoorPack
namespace Go.Proofs.YtblbfgoifaddiaaDoor
set_option linter.unusedVariables false
/-- m bins are enough, and u stands in the last one -/
def PL (n : Nat) (w : Nat → Int) (L : Int) (S : Nat → Bool) (m : Nat) (u : Int) : Prop :=
  ∃ f : Nat → Nat, (∀ i, i < n → S i = true → f i < m) ∧ (∀ b, b < m → load n w S f b ≤ L) ∧ ((m = 0 ∧ u = 0) ∨ (1 ≤ m ∧ u = load n w S f (m - 1)))
def LexLe (m : Nat) (u : Int) (m' : Nat) (u' : Int) : Prop := m < m' ∨ (m = m' ∧ u ≤ u')
def LexOpt (n : Nat) (w : Nat → Int) (L : Int) (S : Nat → Bool) (m : Nat) (u : Int) : Prop := PL n w L S m u ∧ ∀ m' u', PL n w L S m' u' → LexLe m u m' u'
theorem LexLe.refl (m : Nat) (u : Int) : LexLe m u m u := .inr ⟨rfl, Int.le_refl _⟩
theorem LexLe.trans {m m' m'' : Nat} {u u' u'' : Int} (h : LexLe m u m' u') (h' : LexLe m' u' m'' u'') : LexLe m u m'' u'' := by
  unfold LexLe at *; omega
section
variable {n : Nat} {w : Nat → Int} {L : Int}
theorem PL.packs {S : Nat → Bool} {m : Nat} {u : Int} (h : PL n w L S m u) : Packs n w L S m := by
  obtain ⟨f, h1, h2, _⟩ := h; exact ⟨f, h1, h2⟩
theorem PL.of_packs {S : Nat → Bool} {m : Nat} (h : Packs n w L S m) : ∃ u, PL n w L S m u := by
  obtain ⟨f, h1, h2⟩ := h
  by_cases e : m = 0
  · exact ⟨0, f, h1, h2, .inl ⟨e, rfl⟩⟩
  · exact ⟨_, f, h1, h2, .inr ⟨by omega, rfl⟩⟩
theorem LexOpt.isOpt {S : Nat → Bool} {m : Nat} {u : Int} (h : LexOpt n w L S m u) : IsOpt n w L S m := by
  refine ⟨h.1.packs, fun m' hp => ?_⟩
  obtain ⟨u', h'⟩ := PL.of_packs hp
  rcases h.2 _ _ h' with a | a <;> omega
theorem LexOpt.congr {S S' : Nat → Bool} {m : Nat} {u : Int} (h : LexOpt n w L S m u) (e : ∀ i, i < n → S i = S' i) : LexOpt n w L S' m u := by
  have pc : ∀ {S S' : Nat → Bool} {m : Nat} {u : Int}, PL n w L S m u → (∀ i, i < n → S i = S' i) → PL n w L S' m u := by
    intro S S' m u ⟨f, h1, h2, h3⟩ e
    have el : ∀ b, load n w S' f b = load n w S f b := fun b => sm_congr fun i hi => by simp only [e i hi]
    exact ⟨f, fun i hi hs => h1 i hi (by rw [e i hi]; exact hs), fun b hb => by rw [el]; exact h2 b hb, by rw [el]; exact h3⟩
  exact ⟨pc h.1 e, fun m' u' h' => h.2 _ _ (pc h' fun i hi => (e i hi).symm)⟩
theorem load_nonneg {S : Nat → Bool} {f : Nat → Nat} {b : Nat} (hw : Fits n w L) : 0 ≤ load n w S f b := sm_nonneg fun i hi => by
  have := hw i hi
  split <;> omega
theorem PL.bounds {S : Nat → Bool} {m : Nat} {u : Int} (hw : Fits n w L) (hL : 0 ≤ L) (h : PL n w L S m u) : 0 ≤ u ∧ u ≤ L := by
  obtain ⟨f, h1, h2, h3⟩ := h
  rcases h3 with ⟨a, rfl⟩ | ⟨a, rfl⟩
  · omega
  · exact ⟨load_nonneg hw, h2 _ (by omega)⟩
theorem LexOpt.empty {S : Nat → Bool} (h : ∀ i, i < n → S i = false) : LexOpt n w L S 0 0 := by
  refine ⟨⟨fun _ => 0, (fun i hi hs => by rw [h i hi] at hs; cases hs), (fun b hb => absurd hb (Nat.not_lt_zero _)), .inl ⟨rfl, rfl⟩⟩, fun m u h' => ?_⟩
  obtain ⟨f, h1, h2, h3⟩ := h'
  rcases h3 with ⟨a, rfl⟩ | ⟨a, rfl⟩
  · exact .inr ⟨a.symm, Int.le_refl _⟩
  · exact .inl (by omega)
/-- another thing: into the last bin, or into a new one -/
def extM (L : Int) (m : Nat) (u x : Int) : Nat := if m = 0 ∨ L < u + x then m + 1 else m
def extU (L : Int) (m : Nat) (u x : Int) : Int := if m = 0 ∨ L < u + x then x else u + x
theorem load_put {S T : Nat → Bool} {k : Nat} {f : Nat → Nat} {c b : Nat} (hk : k < n) (hS : S k = true) (hT : ∀ i, i < n → T i = (S i && decide (i ≠ k))) :
    load n w S (fun i => if i = k then c else f i) b = load n w T f b + (if c = b then w k else 0) := by
  unfold load
  have e : sm n (fun i => if i = k then (if c = b then w k else 0) else 0) = (if c = b then w k else 0) := sm_one hk
  rw [← e, ← sm_add]
  refine sm_congr fun i hi => ?_
  rw [hT i hi]
  by_cases ik : i = k
  · subst ik; simp [hS]
  · simp [ik]
theorem PL.ext {S T : Nat → Bool} {k m : Nat} {u : Int} (hw : Fits n w L) (hk : k < n) (hS : S k = true) (hT : ∀ i, i < n → T i = (S i && decide (i ≠ k))) (h : PL n w L T m u) : PL n w L S (extM L m u (w k)) (extU L m u (w k)) := by
  obtain ⟨f, h1, h2, h3⟩ := h
  have hwk := hw k hk
  by_cases c : m = 0 ∨ L < u + w k
  · rw [extM, extU, if_pos c, if_pos c]
    have e : load n w T f m = 0 := by
      rw [load, sm_congr (h := fun _ => 0), sm_zero]
      intro i hi
      rw [if_neg]
      rintro ⟨a, b⟩
      have := h1 i hi a; omega
    refine ⟨fun i => if i = k then m else f i, fun i hi hs => ?_, fun b hb => ?_, .inr ⟨by omega, ?_⟩⟩
    · by_cases ik : i = k
      · subst ik; simp only [if_true]; omega
      · have := h1 i hi (by rw [hT i hi]; simp [hs, ik])
        simp only [ik, if_false]; omega
    · rw [load_put hk hS hT]
      by_cases bm : m = b
      · subst bm; rw [if_pos rfl, e]; omega
      · rw [if_neg bm]; have := h2 b (by omega); omega
    · rw [load_put hk hS hT, Nat.add_sub_cancel, if_pos rfl, e]; omega
  · rw [extM, extU, if_neg c, if_neg c]
    have hm : 1 ≤ m := by omega
    obtain ⟨_, hu⟩ : 1 ≤ m ∧ u = load n w T f (m - 1) := by
      rcases h3 with a | a
      · omega
      · exact a
    refine ⟨fun i => if i = k then m - 1 else f i, fun i hi hs => ?_, fun b hb => ?_, .inr ⟨hm, ?_⟩⟩
    · by_cases ik : i = k
      · subst ik; simp only [if_true]; omega
      · have := h1 i hi (by rw [hT i hi]; simp [hs, ik])
        simp only [ik, if_false]; omega
    · rw [load_put hk hS hT]
      by_cases bm : m - 1 = b
      · subst bm; rw [if_pos rfl, ← hu]; omega
      · rw [if_neg bm]; have := h2 b hb; omega
    · rw [load_put hk hS hT, if_pos rfl, ← hu]
/-- whatever packing: some thing was the last one -/
theorem PL.last {S : Nat → Bool} (hw : Fits n w L) (hne : ∃ k, k < n ∧ S k = true) : ∀ (m : Nat) (u : Int), PL n w L S m u →
    ∃ k, k < n ∧ S k = true ∧ ∀ (T : Nat → Bool) (mk : Nat) (uk : Int), (∀ i, i < n → T i = (S i && decide (i ≠ k))) → LexOpt n w L T mk uk → LexLe (extM L mk uk (w k)) (extU L mk uk (w k)) m u := by
  intro m
  induction m with
  | zero =>
    rintro u ⟨f, h1, _⟩
    obtain ⟨k, hk, hs⟩ := hne
    have := h1 k hk hs; omega
  | succ m ih =>
    rintro u ⟨f, h1, h2, h3⟩
    have hu : u = load n w S f m := by
      rcases h3 with ⟨a, _⟩ | ⟨_, a⟩
      · omega
      · exact a
    by_cases hlast : ∃ k, k < n ∧ S k = true ∧ f k = m
    · obtain ⟨k, hk, hs, hf⟩ := hlast
      refine ⟨k, hk, hs, fun T mk uk hT ho => ?_⟩
      have hself : (fun i => if i = k then m else f i) = f := by
        funext i
        by_cases ik : i = k
        · subst ik; simp [hf]
        · simp [ik]
      have hl : ∀ b, load n w S f b = load n w T f b + (if m = b then w k else 0) := fun b => by
        have := load_put (w := w) (f := f) (c := m) (b := b) hk hs hT
        rwa [hself] at this
      have hp : PL n w L T (m + 1) (u - w k) := by
        refine ⟨f, fun i hi ht => h1 i hi (by rw [hT i hi] at ht; simp at ht; exact ht.1), fun b hb => ?_, .inr ⟨by omega, ?_⟩⟩
        · have := h2 b hb
          rw [hl] at this
          have := hw k hk
          split at * <;> omega
        · have := hl m
          rw [if_pos rfl] at this
          rw [Nat.add_sub_cancel, hu]; omega
      have hle := ho.2 _ _ hp
      have hub : u ≤ L := by rw [hu]; exact h2 m (by omega)
      have hwu : w k ≤ u := by
        have := hl m
        rw [if_pos rfl, ← hu] at this
        have := load_nonneg (S := T) (f := f) (b := m) hw
        omega
      rcases hle with a | ⟨a, b⟩
      · by_cases c : mk = 0 ∨ L < uk + w k
        · rw [extM, extU, if_pos c, if_pos c]
          by_cases e : mk = m
          · exact .inr ⟨by omega, hwu⟩
          · exact .inl (by omega)
        · rw [extM, extU, if_neg c, if_neg c]
          exact .inl (by omega)
      · subst a
        have c : ¬ (m + 1 = 0 ∨ L < uk + w k) := by omega
        rw [extM, extU, if_neg c, if_neg c]
        exact .inr ⟨rfl, by omega⟩
    · have hp : Packs n w L S m := by
        refine ⟨f, fun i hi hs => ?_, fun b hb => h2 b (by omega)⟩
        have := h1 i hi hs
        by_cases e : f i = m
        · exact absurd ⟨i, hi, hs, e⟩ hlast
        · omega
      obtain ⟨u', hp'⟩ := PL.of_packs hp
      obtain ⟨k, hk, hs, h⟩ := ih u' hp'
      refine ⟨k, hk, hs, fun T mk uk hT ho => (h T mk uk hT ho).trans (.inl (by omega))⟩
/-- what the loop over the last things keeps: the best so far -/
def LexSo (n : Nat) (w : Nat → Int) (L : Int) (S : Nat → Bool) (k : Nat) (m : Nat) (u : Int) : Prop :=
  ((m = n + 1 ∧ u = 0) ∨ PL n w L S m u) ∧ ∀ j, j < k → S j = true → ∀ (T : Nat → Bool) (mk : Nat) (uk : Int), (∀ i, i < n → T i = (S i && decide (i ≠ j))) → LexOpt n w L T mk uk → LexLe m u (extM L mk uk (w j)) (extU L mk uk (w j))
theorem LexSo.start (S : Nat → Bool) : LexSo n w L S 0 (n + 1) 0 := ⟨.inl ⟨rfl, rfl⟩, fun j hj => by omega⟩
theorem LexSo.skip {S : Nat → Bool} {k m : Nat} {u : Int} (h : LexSo n w L S k m u) (hs : S k = false) : LexSo n w L S (k + 1) m u :=
  ⟨h.1, fun j hj hsj => by
    by_cases e : j = k
    · subst e; rw [hs] at hsj; cases hsj
    · exact h.2 j (by omega) hsj⟩
theorem LexOpt.same {S T : Nat → Bool} {m m' : Nat} {u u' : Int} (h : LexOpt n w L S m u) (h' : LexOpt n w L T m' u') (e : ∀ i, i < n → S i = T i) : m = m' ∧ u = u' := by
  have h1 := h.congr e
  have a := h1.2 _ _ h'.1
  have b := h'.2 _ _ h1.1
  unfold LexLe at a b; omega
theorem LexSo.take {S T : Nat → Bool} {k m mk : Nat} {u uk : Int} (hw : Fits n w L) (h : LexSo n w L S k m u) (hk : k < n) (hs : S k = true) (hT : ∀ i, i < n → T i = (S i && decide (i ≠ k))) (ho : LexOpt n w L T mk uk)
    (hlt : extM L mk uk (w k) < m ∨ (extM L mk uk (w k) = m ∧ extU L mk uk (w k) < u)) : LexSo n w L S (k + 1) (extM L mk uk (w k)) (extU L mk uk (w k)) := by
  refine ⟨.inr (ho.1.ext hw hk hs hT), fun j hj hsj T' mk' uk' hT' ho' => ?_⟩
  by_cases e : j = k
  · subst e
    obtain ⟨rfl, rfl⟩ := ho.same ho' fun i hi => by rw [hT i hi, hT' i hi]
    exact LexLe.refl _ _
  · have := h.2 j (by omega) hsj T' mk' uk' hT' ho'
    unfold LexLe at *; omega
theorem LexSo.keep {S T : Nat → Bool} {k m mk : Nat} {u uk : Int} (h : LexSo n w L S k m u) (hs : S k = true) (hT : ∀ i, i < n → T i = (S i && decide (i ≠ k))) (ho : LexOpt n w L T mk uk)
    (hge : ¬ (extM L mk uk (w k) < m ∨ (extM L mk uk (w k) = m ∧ extU L mk uk (w k) < u))) : LexSo n w L S (k + 1) m u := by
  refine ⟨h.1, fun j hj hsj T' mk' uk' hT' ho' => ?_⟩
  by_cases e : j = k
  · subst e
    obtain ⟨rfl, rfl⟩ := ho.same ho' fun i hi => by rw [hT i hi, hT' i hi]
    unfold LexLe; omega
  · exact h.2 j (by omega) hsj T' mk' uk' hT' ho'
theorem LexSo.fin {S : Nat → Bool} {m : Nat} {u : Int} (hw : Fits n w L) (hne : ∃ k, k < n ∧ S k = true) (hall : ∀ j, j < n → S j = true → ∃ mk uk, LexOpt n w L (fun i => S i && decide (i ≠ j)) mk uk) (h : LexSo n w L S n m u) : LexOpt n w L S m u := by
  have low : ∀ m' u', PL n w L S m' u' → LexLe m u m' u' := fun m' u' hp => by
    obtain ⟨k, hk, hs, hx⟩ := PL.last hw hne m' u' hp
    obtain ⟨mk, uk, ho⟩ := hall k hk hs
    exact (h.2 k hk hs _ mk uk (fun _ _ => rfl) ho).trans (hx _ mk uk (fun _ _ => rfl) ho)
  refine ⟨?_, low⟩
  rcases h.1 with ⟨a, _⟩ | a
  · obtain ⟨u', hp⟩ := PL.of_packs (Packs.each (S := S) hw)
    rcases low _ _ hp with b | b <;> omega
  · exact a
end
end Go.Proofs.YtblbfgoifaddiaaDoor
