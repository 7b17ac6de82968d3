/- Plain law: what the laws on strands say beside 'the same as the reference'. -/
import Derived.Test.YtblbfgoifaddiaaDoorLeastPlain
namespace Go.Proofs.YtblbfgoifaddiaaDoor
set_option linter.unusedVariables false
section
variable {n : Nat} {w : Nat → Int} {L : Int}
theorem sm_head (n : Nat) (g : Nat → Int) : sm (n + 1) g = g 0 + sm n (fun i => g (i + 1)) := by
  induction n with
  | zero => simp [sm]
  | succ n ih =>
    rw [sm, ih]; simp only [sm]; omega
/-- the first thing left out, and the others counted from 0 on -/
theorem packs_tail {m : Nat} : Packs n (fun i => w (i + 1)) L (fun _ => true) m ↔ Packs (n + 1) w L (fun i => decide (i ≠ 0)) m := by
  constructor
  · rintro ⟨f, h1, h2⟩
    refine ⟨fun i => f (i - 1), fun i hi hs => ?_, fun b hb => ?_⟩
    · have : i ≠ 0 := by simpa using hs
      exact h1 (i - 1) (by omega) rfl
    · have := h2 b hb
      unfold load at this ⊢
      rw [sm_head]
      simpa using this
  · rintro ⟨f, h1, h2⟩
    refine ⟨fun i => f (i + 1), fun i hi _ => h1 (i + 1) (by omega) (by simp), fun b hb => ?_⟩
    have := h2 b hb
    unfold load at this ⊢
    rw [sm_head] at this
    simpa using this
/-- the last thing left out -/
theorem packs_init {m : Nat} : Packs n w L (fun _ => true) m ↔ Packs (n + 1) w L (fun i => decide (i ≠ n)) m := by
  have e : ∀ (f : Nat → Nat) (b : Nat), load (n + 1) w (fun i => decide (i ≠ n)) f b = load n w (fun _ => true) f b := fun f b => by
    unfold load
    rw [sm]
    simp only [decide_not, ne_eq, not_true_eq_false, decide_false, Bool.false_eq_true, false_and, if_false, Int.add_zero]
    refine sm_congr fun i hi => ?_
    have : i ≠ n := by omega
    simp [this]
  constructor
  · rintro ⟨f, h1, h2⟩
    refine ⟨f, fun i hi hs => ?_, fun b hb => by rw [e]; exact h2 b hb⟩
    have : i ≠ n := by simpa using hs
    exact h1 i (by omega) rfl
  · rintro ⟨f, h1, h2⟩
    refine ⟨f, fun i hi _ => h1 i (by omega) (by simp; omega), fun b hb => by rw [← e]; exact h2 b hb⟩
/-- without one thing as many are enough, or one fewer -/
theorem opt_without {k m m' : Nat} (hw : Fits n w L) (hk : k < n) (h : IsOpt n w L (fun _ => true) m) (h' : IsOpt n w L (fun i => decide (i ≠ k)) m') : m' ≤ m ∧ m ≤ m' + 1 := by
  constructor
  · exact h'.2 m (h.1.fewer hw fun i hi _ => rfl)
  · refine h.2 _ (Packs.bin (T := fun i => decide (i = k)) (fun i hi _ => rfl) ?_ (h'.1.congr fun i hi => by by_cases e : i = k <;> simp [e]))
    have : tot n w (fun i => decide (i = k)) = w k := by
      unfold tot
      rw [sm_congr (h := fun i => if i = k then w k else 0), sm_one hk]
      intro i hi
      by_cases e : i = k
      · subst e; simp
      · simp [e]
    rw [this]; exact (hw k hk).2
end
theorem wF_tail (x : Int) (ws : List Int) : (fun i => wF (x :: ws) (i + 1)) = wF ws := by funext i; simp [wF]
theorem wantsOk_tail {x : Int} {ws : List Int} {long : Int} (h : wantsOk (x :: ws) long = true) : wantsOk ws long = true := by
  simp only [wantsOk, Bool.and_eq_true, decide_eq_true_eq, List.all_cons, List.length_cons] at h
  exact wantsOk_mk (by omega) h.2.1 h.2.2.2
theorem wantsOk_take {ws : List Int} {long : Int} (h : wantsOk ws long = true) (k : Nat) : wantsOk (ws.take k) long = true := by
  simp only [wantsOk, Bool.and_eq_true, decide_eq_true_eq, List.all_eq_true] at h
  refine wantsOk_mk (by rw [List.length_take]; omega) h.2.1 ?_
  rw [List.all_eq_true]
  exact fun q hq => h.2.2 q (List.mem_of_mem_take hq)
theorem sleast_neg {ws : List Int} {long v : Int} (h : SLeast ws long v) (hv : v < 0) : v = -1 := by
  rcases h with ⟨_, h⟩ | ⟨_, m, h, _⟩
  · exact h
  · omega
theorem sleast_valid {ws : List Int} {long v : Int} (h : SLeast ws long v) (hv : 0 ≤ v) : wantsOk ws long = true ∧ ∃ m : Nat, v = (m : Int) ∧ IsOpt ws.length (wF ws) long (fun _ => true) m := by
  rcases h with ⟨_, h⟩ | ⟨a, b⟩
  · omega
  · exact ⟨a, b⟩
theorem sleast_nil {long v : Int} (h : SLeast [] long v) (hv : 0 ≤ v) : v = 0 := by
  obtain ⟨_, m, e, hm⟩ := sleast_valid h hv
  have := hm.unique (opt_empty (n := 0) (w := wF []) (L := long) (S := fun _ => true) fun i hi => by omega)
  omega
theorem sleast_tail {x : Int} {ws : List Int} {long v u : Int} (h : SLeast (x :: ws) long v) (hv : 0 ≤ v) (h' : SLeast ws long u) : u = v ∨ u = v - 1 := by
  obtain ⟨hw, m, e, hm⟩ := sleast_valid h hv
  rcases h' with ⟨a, _⟩ | ⟨_, m', e', hm'⟩
  · rw [wantsOk_tail hw] at a; cases a
  · have hm2 : IsOpt (ws.length + 1) (wF (x :: ws)) long (fun i => decide (i ≠ 0)) m' := by
      rw [← wF_tail x ws] at hm'
      exact ⟨packs_tail.1 hm'.1, fun k hk => hm'.2 k (packs_tail.2 hk)⟩
    have := opt_without (wants_fits hw) (by simp) hm hm2
    omega
theorem sleast_init {ws : List Int} {long v u : Int} {n : Nat} (hn : ws.length = n + 1) (h : SLeast ws long v) (hv : 0 ≤ v) (h' : SLeast (ws.take n) long u) : v - 1 ≤ u := by
  obtain ⟨hw, m, e, hm⟩ := sleast_valid h hv
  rcases h' with ⟨a, _⟩ | ⟨_, m', e', hm'⟩
  · rw [wantsOk_take hw] at a; cases a
  · have hl : (ws.take n).length = n := by rw [List.length_take]; omega
    rw [hl] at hm'
    rw [hn] at hm
    have cg : ∀ {S : Nat → Bool} {k : Nat}, Packs n (wF (ws.take n)) long S k ↔ Packs n (wF ws) long S k := fun {S k} => by
      have el : ∀ f b, load n (wF (ws.take n)) S f b = load n (wF ws) S f b := fun f b => sm_congr fun i hi => by
        have : wF (ws.take n) i = wF ws i := by simp [wF, List.getD_eq_getElem?_getD, List.getElem?_take_of_lt hi]
        rw [this]
      constructor
      · rintro ⟨f, a, b⟩; exact ⟨f, a, fun c hc => by rw [← el]; exact b c hc⟩
      · rintro ⟨f, a, b⟩; exact ⟨f, a, fun c hc => by rw [el]; exact b c hc⟩
    have hm2 : IsOpt (n + 1) (wF ws) long (fun i => decide (i ≠ n)) m' := ⟨packs_init.1 (cg.1 hm'.1), fun k hk => hm'.2 k (cg.2 (packs_init.2 hk))⟩
    have hf := wants_fits hw
    rw [hn] at hf
    have := opt_without hf (by omega) hm hm2
    omega
/-- all wants together -/
def sumI (ws : List Int) : Int := sm ws.length (wF ws)
theorem sumI_snoc {ws : List Int} {k : Nat} {x : Int} (h : ws[k]? = some x) : sm (k + 1) (wF ws) = sm k (wF ws) + x := by rw [sm, wF_get h]
theorem packs_sum {ws : List Int} {long : Int} {m : Nat} (h : Packs ws.length (wF ws) long (fun _ => true) m) : sumI ws ≤ m * long := by
  have := h.tot_le
  unfold tot at this
  simpa [sumI] using this
theorem sleast_sum {ws : List Int} {long v : Int} (h : SLeast ws long v) (hv : 0 ≤ v) : sumI ws ≤ v * long := by
  obtain ⟨hw, m, e, hm⟩ := sleast_valid h hv
  rw [e]; exact packs_sum hm.1
/-! ### a right list of strands is a packing -/
theorem sumAt_sm {ws ps : List Int} {s : Int} (k : Nat) : k ≤ ws.length → k ≤ ps.length → sumAt ws ps s k = sm k (fun i => if ps[i]? = some s then wF ws i else 0) := by
  induction k with
  | zero => intro _ _; rfl
  | succ k ih =>
    intro h1 h2
    obtain ⟨x, hx⟩ : ∃ x, ws[k]? = some x := ⟨_, List.getElem?_eq_getElem (by omega)⟩
    obtain ⟨p, hp⟩ : ∃ x, ps[k]? = some x := ⟨_, List.getElem?_eq_getElem (by omega)⟩
    rw [sm]
    by_cases e : p = s
    · subst e
      rw [sumAt_hit hx hp, ih (by omega) (by omega), if_pos hp, wF_get hx]
    · rw [sumAt_miss hx hp e, ih (by omega) (by omega), if_neg (by rw [hp]; simpa using e)]; omega
/-- strands named anew, from 0 on -/
theorem renamed (ps : List Int) : ∀ k, k ≤ ps.length → ∃ f : Nat → Nat, (∀ i, i < k → (f i : Int) < manyTo ps k) ∧ ∀ i j, i < k → j < k → (f i = f j ↔ ps[i]? = ps[j]?) := by
  intro k
  induction k with
  | zero => intro _; exact ⟨fun _ => 0, fun i hi => by omega, fun i j hi => by omega⟩
  | succ k ih =>
    intro hk
    obtain ⟨f, h1, h2⟩ := ih (by omega)
    obtain ⟨p, hp⟩ : ∃ x, ps[k]? = some x := ⟨_, List.getElem?_eq_getElem (by omega)⟩
    have hb := manyTo_bounds ps k
    cases hc : hasI (ps.take k) p
    · rw [manyTo_new hp hc]
      have no : ∀ i, i < k → ps[i]? ≠ some p := fun i hi he => by
        have : hasI (ps.take k) p = true := by
          unfold hasI; rw [List.contains_iff_mem]
          exact List.mem_of_getElem? (i := i) (by rw [List.getElem?_take_of_lt hi]; exact he)
        rw [hc] at this; cases this
      refine ⟨fun i => if i = k then (manyTo ps k).toNat else f i, fun i hi => ?_, fun i j hi hj => ?_⟩
      · by_cases e : i = k
        · subst e; simp only [if_true]; omega
        · simp only [e, if_false]; have := h1 i (by omega); omega
      · by_cases ei : i = k <;> by_cases ej : j = k
        · subst ei; subst ej; simp
        · subst ei
          simp only [if_true, ej, if_false]
          have a := h1 j (by omega)
          have b := no j (by omega)
          rw [hp]
          constructor
          · intro h; omega
          · intro h; exact absurd h.symm b
        · subst ej
          simp only [if_true, ei, if_false]
          have a := h1 i (by omega)
          have b := no i (by omega)
          rw [hp]
          constructor
          · intro h; omega
          · intro h; exact absurd h b
        · simp only [ei, ej, if_false]; exact h2 i j (by omega) (by omega)
    · rw [manyTo_old hp hc]
      unfold hasI at hc
      rw [List.contains_iff_mem] at hc
      obtain ⟨q, hq⟩ := List.getElem?_of_mem hc
      have hqk : q < k := by have := (List.getElem?_eq_some_iff.1 hq).1; rw [List.length_take] at this; omega
      rw [List.getElem?_take_of_lt hqk] at hq
      refine ⟨fun i => if i = k then f q else f i, fun i hi => ?_, fun i j hi hj => ?_⟩
      · by_cases e : i = k
        · subst e; simp only [if_true]; exact h1 q hqk
        · simp only [e, if_false]; exact h1 i (by omega)
      · by_cases ei : i = k <;> by_cases ej : j = k
        · subst ei; subst ej; simp
        · subst ei
          simp only [if_true, ej, if_false]
          rw [h2 q j hqk (by omega), hp, hq]
        · subst ej
          simp only [if_true, ei, if_false]
          rw [h2 i q (by omega) hqk, hp, hq]
        · simp only [ei, ej, if_false]; exact h2 i j (by omega) (by omega)
theorem strands_packs {ws ps : List Int} {long : Int} (h : strandsOk ws long ps = true) : Packs ws.length (wF ws) long (fun _ => true) (strandsMany ws long ps).toNat := by
  obtain ⟨h1, h2, h3, h4⟩ := strandsOk_facts h
  have hL := (wantsOk_len h1).2.1
  obtain ⟨f, f1, f2⟩ := renamed ps ps.length (Nat.le_refl _)
  have hb := manyTo_bounds ps ps.length
  rw [strandsMany_ok h]
  refine ⟨f, fun i hi _ => by have := f1 i (by omega); omega, fun b hb => ?_⟩
  by_cases hne : ∃ j, j < ps.length ∧ f j = b
  · obtain ⟨j, hj, rfl⟩ := hne
    obtain ⟨p, hp⟩ : ∃ x, ps[j]? = some x := ⟨_, List.getElem?_eq_getElem hj⟩
    have hpp := h3 j p hp
    obtain ⟨P, rfl⟩ : ∃ P : Nat, p = (P : Int) := ⟨p.toNat, by omega⟩
    have := h4 P (by omega)
    rw [sumAt_sm _ (Nat.le_refl _) (by omega)] at this
    refine Int.le_trans (Int.le_of_eq (sm_congr fun i hi => ?_)) this
    have e := f2 i j (by omega) hj
    rw [hp] at e
    by_cases hc : f i = f j
    · rw [if_pos ⟨rfl, hc⟩, if_pos (e.1 hc)]
    · rw [if_neg (fun h => hc h.2), if_neg (fun h => hc (e.2 h))]
  · have : load ws.length (wF ws) (fun _ => true) f b = 0 := by
      unfold load
      rw [sm_congr (h := fun _ => 0), sm_zero]
      intro i hi
      rw [if_neg]
      rintro ⟨_, hc⟩
      exact hne ⟨i, by omega, hc⟩
    omega
/-- no fewer strands are enough -/
theorem many_least {ws ps : List Int} {long v : Int} (h : strandsOk ws long ps = true) (hv : SLeast ws long v) : 0 ≤ v ∧ v ≤ strandsMany ws long ps ∧ strandsMany ws long ps ≤ ws.length := by
  obtain ⟨h1, h2, _⟩ := strandsOk_facts h
  have hb := manyTo_bounds ps ps.length
  rcases hv with ⟨a, _⟩ | ⟨_, m, rfl, hm⟩
  · rw [h1] at a; cases a
  · have := hm.2 _ (strands_packs h)
    rw [strandsMany_ok h] at this ⊢
    omega
theorem many_sum {ws ps : List Int} {long : Int} (h : strandsOk ws long ps = true) : sumI ws ≤ long * strandsMany ws long ps := by
  have a := packs_sum (strands_packs h)
  have hb := manyTo_bounds ps ps.length
  rw [strandsMany_ok h] at a ⊢
  rw [Int.mul_comm]
  have : ((manyTo ps ps.length).toNat : Int) = manyTo ps ps.length := by omega
  rwa [this] at a
theorem strandsMany_neg {ws ps : List Int} {long : Int} (h : strandsMany ws long ps < 0) : strandsMany ws long ps = -1 := by
  cases hc : strandsOk ws long ps
  · exact strandsMany_no hc
  · rw [strandsMany_ok hc] at h; have := manyTo_bounds ps ps.length; omega
end Go.Proofs.YtblbfgoifaddiaaDoor
