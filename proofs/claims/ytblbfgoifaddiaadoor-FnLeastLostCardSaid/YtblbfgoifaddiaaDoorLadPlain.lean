/- Plain law: ladles: as many are enough as are full at once. -/
import Derived.Test.YtblbfgoifaddiaaDoorFitSize
import Derived.Test.YtblbfgoifaddiaaDoorCastV
namespace Go.Proofs.YtblbfgoifaddiaaDoor
set_option linter.unusedVariables false
/-- the least ladle that is free -/
def llS (es : List Int) (T : Int) : Nat := es.findIdx fun c => decide (c ≤ T)
def llStep (t e : Nat → Int) (st : List Int × (Nat → Nat)) (i : Nat) : List Int × (Nat → Nat) :=
  (if llS st.1 (t i) < st.1.length then st.1.set (llS st.1 (t i)) (e i) else st.1 ++ [e i], fun j => if j = i then llS st.1 (t i) else st.2 j)
def llRun (t e : Nat → Int) (o : List Nat) : List Int × (Nat → Nat) := o.foldl (llStep t e) ([], fun _ => 0)
theorem llRun_snoc (t e : Nat → Int) (o : List Nat) (k : Nat) : llRun t e (o ++ [k]) = llStep t e (llRun t e o) k := by unfold llRun; rw [List.foldl_append]; rfl
theorem llS_le (es : List Int) (T : Int) : llS es T ≤ es.length := List.findIdx_le_length
theorem llS_free {es : List Int} {T c : Int} (h : es[llS es T]? = some c) : c ≤ T := by
  obtain ⟨hl, he⟩ := List.getElem?_eq_some_iff.1 h
  have := List.findIdx_getElem (p := fun c => decide (c ≤ T)) (xs := es) (w := hl)
  have h2 := of_decide_eq_true this
  exact (congrArg (fun q => q ≤ T) he).mp h2
theorem llS_full {es : List Int} {T c : Int} {l : Nat} (hl : l < llS es T) (h : es[l]? = some c) : T < c := by
  have := List.not_of_lt_findIdx (p := fun c => decide (c ≤ T)) (xs := es) (i := l) hl
  rw [(List.getElem?_eq_some_iff.1 h).2] at this
  simp at this; omega
structure LI (t e : Nat → Int) (o : List Nat) (st : List Int × (Nat → Nat)) : Prop where
  lad : ∀ i, i ∈ o → st.2 i < st.1.length
  top : ∀ i, i ∈ o → ∀ c, st.1[st.2 i]? = some c → e i ≤ c
  last : ∀ (l : Nat) (c : Int), st.1[l]? = some c → ∃ j, j ∈ o ∧ st.2 j = l ∧ e j = c
  disj : ∀ i j, i ∈ o → j ∈ o → i ≠ j → st.2 i = st.2 j → e i ≤ t j ∨ e j ≤ t i
  le : st.1.length ≤ o.length
  full : st.1.length = 0 ∨ ∃ i, i ∈ o ∧ ∃ J : List Nat, J.Nodup ∧ J.length = st.1.length ∧ ∀ j, j ∈ J → j ∈ o ∧ t j ≤ t i ∧ t i < e j
theorem LI.nil (t e : Nat → Int) : LI t e [] (llRun t e []) := by
  refine ⟨fun i h => ?_, fun i h => ?_, fun l c h => ?_, fun i j h => ?_, Nat.le_refl _, .inl rfl⟩
  · simp at h
  · simp at h
  · simp [llRun] at h
  · simp at h
theorem chosenN {n : Nat} {p : Nat → Nat → Prop} (h : ∀ i, i < n → ∃ x, p i x) : ∃ xs : List Nat, xs.length = n ∧ ∀ (i : Nat) (x : Nat), xs[i]? = some x → p i x := by
  induction n with
  | zero => exact ⟨[], rfl, fun i x hx => by simp at hx⟩
  | succ n ih =>
    obtain ⟨xs, hl, hx⟩ := ih fun i hi => h i (by omega)
    obtain ⟨y, hy⟩ := h n (by omega)
    refine ⟨xs ++ [y], by simp [hl], fun i x hi => ?_⟩
    by_cases e : i < n
    · rw [List.getElem?_append_left (by omega)] at hi; exact hx i x hi
    · have hl2 := (List.getElem?_eq_some_iff.1 hi).1
      simp [hl] at hl2
      have : i = n := by omega
      subst this
      rw [List.getElem?_append_right (by omega)] at hi
      simp [hl] at hi
      subst hi; exact hy
theorem LI.step {t e : Nat → Int} {o : List Nat} {st : List Int × (Nat → Nat)} {i : Nat} (h : LI t e o st) (hi : i ∉ o) (ht : ∀ j, j ∈ o → t j ≤ t i) (he : t i < e i) : LI t e (o ++ [i]) (llStep t e st i) := by
  have hne : ∀ j, j ∈ o → j ≠ i := fun j hj e => hi (e ▸ hj)
  have h2 : ∀ j, j ∈ o → (llStep t e st i).2 j = st.2 j := fun j hj => by simp [llStep, hne j hj]
  have h2i : (llStep t e st i).2 i = llS st.1 (t i) := by simp [llStep]
  by_cases hL : llS st.1 (t i) < st.1.length
  · obtain ⟨c0, hc0⟩ : ∃ c, st.1[llS st.1 (t i)]? = some c := ⟨_, List.getElem?_eq_getElem hL⟩
    have hfree := llS_free hc0
    have h1 : (llStep t e st i).1 = st.1.set (llS st.1 (t i)) (e i) := by simp [llStep, hL]
    have hlen : (llStep t e st i).1.length = st.1.length := by rw [h1, List.length_set]
    refine ⟨fun j hj => ?_, fun j hj c hc => ?_, fun l c hc => ?_, fun a b ha hb hab hs => ?_, by rw [hlen, List.length_append]; have := h.le; omega, ?_⟩
    · rw [hlen]
      rcases List.mem_append.1 hj with hj | hj
      · rw [h2 j hj]; exact h.lad j hj
      · simp at hj; subst hj; rw [h2i]; exact hL
    · rw [h1] at hc
      rcases List.mem_append.1 hj with hj | hj
      · rw [h2 j hj] at hc
        by_cases e1 : llS st.1 (t i) = st.2 j
        · rw [← e1, List.getElem?_set_self hL] at hc
          injection hc with hc
          have := h.top j hj c0 (by rw [← e1]; exact hc0)
          omega
        · rw [List.getElem?_set_ne e1] at hc
          exact h.top j hj c hc
      · simp at hj; subst hj
        rw [h2i, List.getElem?_set_self hL] at hc
        injection hc with hc; omega
    · rw [h1] at hc
      by_cases e1 : llS st.1 (t i) = l
      · subst e1
        rw [List.getElem?_set_self hL] at hc
        injection hc with hc
        exact ⟨i, by simp, h2i, hc⟩
      · rw [List.getElem?_set_ne e1] at hc
        obtain ⟨j, hj, hj2, hj3⟩ := h.last l c hc
        exact ⟨j, by simp [hj], by rw [h2 j hj]; exact hj2, hj3⟩
    · rcases List.mem_append.1 ha with ha | ha
      · rcases List.mem_append.1 hb with hb | hb
        · rw [h2 a ha, h2 b hb] at hs
          exact h.disj a b ha hb hab hs
        · simp at hb
          have hs' := hs
          rw [hb, h2 a ha, h2i] at hs'
          have := h.top a ha c0 (by rw [hs']; exact hc0)
          exact .inl (by rw [hb]; omega)
      · simp at ha; subst ha
        rcases List.mem_append.1 hb with hb | hb
        · rw [h2 b hb, h2i] at hs
          have := h.top b hb c0 (by rw [← hs]; exact hc0)
          exact .inr (by omega)
        · simp at hb; exact absurd hb.symm hab
    · rw [hlen]
      rcases h.full with h0 | ⟨a, ha, J, j1, j2, j3⟩
      · exact .inl h0
      · exact .inr ⟨a, by simp [ha], J, j1, j2, fun j hj => ⟨by simp [(j3 j hj).1], (j3 j hj).2⟩⟩
  · have hLe : llS st.1 (t i) = st.1.length := by have := llS_le st.1 (t i); omega
    have h1 : (llStep t e st i).1 = st.1 ++ [e i] := by simp [llStep, hL]
    have hlen : (llStep t e st i).1.length = st.1.length + 1 := by rw [h1, List.length_append]; rfl
    refine ⟨fun j hj => ?_, fun j hj c hc => ?_, fun l c hc => ?_, fun a b ha hb hab hs => ?_, by rw [hlen, List.length_append, List.length_singleton]; have := h.le; omega, .inr ?_⟩
    · rw [hlen]
      rcases List.mem_append.1 hj with hj | hj
      · rw [h2 j hj]; have := h.lad j hj; omega
      · simp at hj; subst hj; rw [h2i]; omega
    · rw [h1] at hc
      rcases List.mem_append.1 hj with hj | hj
      · rw [h2 j hj, List.getElem?_append_left (h.lad j hj)] at hc
        exact h.top j hj c hc
      · simp at hj; subst hj
        rw [h2i, hLe, List.getElem?_append_right (Nat.le_refl _)] at hc
        simp at hc; omega
    · rw [h1] at hc
      by_cases e1 : l < st.1.length
      · rw [List.getElem?_append_left e1] at hc
        obtain ⟨j, hj, hj2, hj3⟩ := h.last l c hc
        exact ⟨j, by simp [hj], by rw [h2 j hj]; exact hj2, hj3⟩
      · have hll := (List.getElem?_eq_some_iff.1 hc).1
        simp at hll
        have : l = st.1.length := by omega
        subst this
        rw [List.getElem?_append_right (Nat.le_refl _)] at hc
        simp at hc
        exact ⟨i, by simp, by rw [h2i, hLe], hc⟩
    · rcases List.mem_append.1 ha with ha | ha
      · rcases List.mem_append.1 hb with hb | hb
        · rw [h2 a ha, h2 b hb] at hs
          exact h.disj a b ha hb hab hs
        · simp at hb
          rw [hb, h2 a ha, h2i, hLe] at hs
          have := h.lad a ha; omega
      · simp at ha; subst ha
        rcases List.mem_append.1 hb with hb | hb
        · rw [h2 b hb, h2i, hLe] at hs
          have := h.lad b hb; omega
        · simp at hb; exact absurd hb.symm hab
    · obtain ⟨J, jl, jp⟩ := chosenN (n := st.1.length) (p := fun l j => j ∈ o ∧ st.2 j = l ∧ t i < e j) fun l hl => by
        obtain ⟨c, hc⟩ : ∃ c, st.1[l]? = some c := ⟨_, List.getElem?_eq_getElem hl⟩
        obtain ⟨j, hj, hj2, hj3⟩ := h.last l c hc
        have := llS_full (es := st.1) (T := t i) (l := l) (by omega) hc
        exact ⟨j, hj, hj2, by omega⟩
      have jm : ∀ j, j ∈ J → j ∈ o ∧ t i < e j := fun j hj => by
        obtain ⟨l, hl⟩ := List.getElem?_of_mem hj
        obtain ⟨a, _, b⟩ := jp l j hl
        exact ⟨a, b⟩
      refine ⟨i, by simp, J ++ [i], ?_, by rw [hlen, List.length_append, jl]; rfl, fun j hj => ?_⟩
      · rw [List.nodup_append]
        refine ⟨?_, by simp, fun a ha b hb => ?_⟩
        · rw [List.nodup_iff_pairwise_ne, List.pairwise_iff_getElem]
          intro a b ha hb hab e1
          have p1 := (jp a _ (List.getElem?_eq_getElem ha)).2.1
          have p2 := (jp b _ (List.getElem?_eq_getElem hb)).2.1
          rw [e1] at p1
          omega
        · simp at hb; subst hb; exact hne a (jm a ha).1
      · rcases List.mem_append.1 hj with hj | hj
        · exact ⟨by simp [(jm j hj).1], ht j (jm j hj).1, (jm j hj).2⟩
        · simp at hj; subst hj; exact ⟨by simp, Int.le_refl _, he⟩
theorem li_run {t e : Nat → Int} : ∀ (o : List Nat), o.Nodup → o.Pairwise (fun a b => t a ≤ t b) → (∀ i, i ∈ o → t i < e i) → LI t e o (llRun t e o) := by
  intro o
  refine snocInd (P := fun o => o.Nodup → o.Pairwise (fun a b => t a ≤ t b) → (∀ i, i ∈ o → t i < e i) → LI t e o (llRun t e o)) ?_ ?_ o
  · intro _ _ _; exact LI.nil t e
  · intro o k ih h1 h2 h3
    rw [List.nodup_append] at h1
    rw [List.pairwise_append] at h2
    rw [llRun_snoc]
    exact (ih h1.1 h2.1 fun i hi => h3 i (by simp [hi])).step (fun hk => h1.2.2 k hk k (by simp) rfl) (fun j hj => h2.2.2 j hj k (by simp)) (h3 k (by simp))
/-! ### the ladle that is found by trying one after the other -/
def Blocked (e : Nat → Int) (o : List Nat) (f : Nat → Nat) (T : Int) (l : Nat) : Prop := ∃ j, j ∈ o ∧ f j = l ∧ T < e j
section
variable {t e : Nat → Int} {o : List Nat} {st : List Int × (Nat → Nat)} {T : Int}
theorem LI.blocked (h : LI t e o st) {l : Nat} (hl : l < llS st.1 T) : Blocked e o st.2 T l := by
  obtain ⟨c, hc⟩ : ∃ c, st.1[l]? = some c := ⟨_, List.getElem?_eq_getElem (by have := llS_le st.1 T; omega)⟩
  obtain ⟨j, hj, hj2, hj3⟩ := h.last l c hc
  have := llS_full hl hc
  exact ⟨j, hj, hj2, by omega⟩
theorem LI.free (h : LI t e o st) : ¬ Blocked e o st.2 T (llS st.1 T) := by
  rintro ⟨j, hj, hj2, hj3⟩
  have hl := h.lad j hj
  obtain ⟨c, hc⟩ : ∃ c, st.1[st.2 j]? = some c := ⟨_, List.getElem?_eq_getElem hl⟩
  have := h.top j hj c hc
  rw [hj2] at hc
  have := llS_free hc
  omega
theorem LI.is (h : LI t e o st) {l : Nat} (hb : ∀ q, q < l → Blocked e o st.2 T q) (hf : ¬ Blocked e o st.2 T l) : llS st.1 T = l := by
  rcases Nat.lt_trichotomy (llS st.1 T) l with a | a | a
  · exact absurd (hb _ a) h.free
  · exact a
  · exact absurd (h.blocked a) hf
theorem LI.bound (h : LI t e o st) {l : Nat} (hb : Blocked e o st.2 T l) : l < o.length := by
  obtain ⟨j, hj, hj2, _⟩ := hb
  have := h.lad j hj
  have := h.le
  omega
end
/-! ### how many are full at once -/
def cntAt (t e : Nat → Int) (n : Nat) (m : Int) : Nat := ((List.range n).filter fun i => decide (t i ≤ m) && decide (m < e i)).length
theorem cntAt_succ (t e : Nat → Int) (n : Nat) (m : Int) : cntAt t e (n + 1) m = cntAt t e n m + (if t n ≤ m ∧ m < e n then 1 else 0) := by
  unfold cntAt
  rw [List.range_succ, List.filter_append, List.length_append]
  congr 1
  by_cases h : t n ≤ m ∧ m < e n
  · simp [h]
  · rw [if_neg h]
    have : (decide (t n ≤ m) && decide (m < e n)) = false := by
      by_cases a : t n ≤ m <;> by_cases b : m < e n <;> simp [a, b] <;> omega
    simp [this]
theorem cntAt_le (t e : Nat → Int) (n : Nat) (m : Int) : cntAt t e n m ≤ n := by
  unfold cntAt
  exact Nat.le_trans (List.length_filter_le _ _) (by simp)
def mostTo (t e : Nat → Int) (n : Nat) : Nat → Nat
  | 0 => 0
  | k + 1 => max (mostTo t e n k) (cntAt t e n (t k))
theorem mostTo_ge (t e : Nat → Int) (n : Nat) : ∀ k j, j < k → cntAt t e n (t j) ≤ mostTo t e n k := by
  intro k
  induction k with
  | zero => intro j h; omega
  | succ k ih =>
    intro j h
    simp only [mostTo]
    by_cases e1 : j = k
    · subst e1; omega
    · have := ih j (by omega); omega
theorem mostTo_le (t e : Nat → Int) (n X : Nat) : ∀ k, (∀ j, j < k → cntAt t e n (t j) ≤ X) → mostTo t e n k ≤ X := by
  intro k
  induction k with
  | zero => intro _; simp [mostTo]
  | succ k ih =>
    intro h
    simp only [mostTo]
    have := ih fun j hj => h j (by omega)
    have := h k (by omega)
    omega
theorem nodup_sub_len {m : List Nat} : ∀ {l : List Nat}, l.Nodup → (∀ x, x ∈ l → x ∈ m) → l.length ≤ m.length := by
  intro l
  induction l generalizing m with
  | nil => intro _ _; simp
  | cons a r ih =>
    intro hn hs
    obtain ⟨h1, h2⟩ := List.nodup_cons.1 hn
    have ha := hs a (by simp)
    have := ih (m := m.erase a) h2 fun x hx => by
      have hne : x ≠ a := fun e => h1 (e ▸ hx)
      exact (List.mem_erase_of_ne hne).2 (hs x (by simp [hx]))
    rw [List.length_erase_of_mem ha] at this
    have := List.length_pos_of_mem ha
    simp only [List.length_cons]; omega
theorem nodup_map {f : Nat → Nat} : ∀ {l : List Nat}, l.Nodup → (∀ a b, a ∈ l → b ∈ l → f a = f b → a = b) → (l.map f).Nodup := by
  intro l
  induction l with
  | nil => intro _ _; simp
  | cons a r ih =>
    intro hn hf
    obtain ⟨h1, h2⟩ := List.nodup_cons.1 hn
    rw [List.map_cons, List.nodup_cons]
    refine ⟨fun hm => ?_, ih h2 fun x y hx hy => hf x y (by simp [hx]) (by simp [hy])⟩
    obtain ⟨x, hx, he⟩ := List.mem_map.1 hm
    have := hf x a (by simp [hx]) (by simp) he
    subst this; exact h1 hx
/-- exactly as many ladles as are full at once at most -/
theorem lad_most {t e : Nat → Int} {n : Nat} {o : List Nat} {st : List Int × (Nat → Nat)} (h : LI t e o st) (ho : ∀ i, i ∈ o ↔ i < n) : st.1.length = mostTo t e n n := by
  refine Nat.le_antisymm ?_ ?_
  · rcases h.full with h0 | ⟨i, hi, J, j1, j2, j3⟩
    · omega
    · rw [← j2]
      refine Nat.le_trans ?_ (mostTo_ge t e n n i ((ho i).1 hi))
      unfold cntAt
      refine nodup_sub_len j1 fun x hx => ?_
      obtain ⟨a, b, c⟩ := j3 x hx
      rw [List.mem_filter]
      exact ⟨List.mem_range.2 ((ho x).1 a), by simp [b, c]⟩
  · refine mostTo_le t e n _ n fun k hk => ?_
    unfold cntAt
    have key : ((List.range n).filter fun i => decide (t i ≤ t k) && decide (t k < e i)).Nodup := List.nodup_range.filter _
    have hm : ∀ x, x ∈ ((List.range n).filter fun i => decide (t i ≤ t k) && decide (t k < e i)) → x ∈ o ∧ t x ≤ t k ∧ t k < e x := fun x hx => by
      rw [List.mem_filter] at hx
      obtain ⟨a, b⟩ := hx
      simp only [Bool.and_eq_true, decide_eq_true_eq] at b
      exact ⟨(ho x).2 (List.mem_range.1 a), b.1, b.2⟩
    have h2 := nodup_map (f := st.2) key fun a b ha hb hab => Classical.byContradiction fun hne => by
      obtain ⟨a1, a2, a3⟩ := hm a ha
      obtain ⟨b1, b2, b3⟩ := hm b hb
      rcases h.disj a b a1 b1 hne hab with q | q <;> omega
    have h3 := nodup_len st.1.length _ h2 fun x hx => by
      obtain ⟨y, hy, rfl⟩ := List.mem_map.1 hx
      exact h.lad y (hm y hy).1
    rwa [List.length_map] at h3
end Go.Proofs.YtblbfgoifaddiaaDoor
