/- Plain law: slabs left out, bad stretches left out, and the least waste. -/
import Derived.Test.YtcegmlogjbnoeaaDoorSlabFn
namespace Go.Proofs.YtcegmlogjbnoeaaDoor
set_option linter.unusedVariables false
section
variable {ls : List Int} {long : Int}
/-- bad stretches that are valid, said with lists -/
theorem badOk_seq {ys : List (Int × Int)} : badOk long ys = true ↔ inB long 0 60 = true ∧ ys.length ≤ 4 ∧ BadSeq long 0 ys := by
  have key : ∀ (d k : Nat), k + d = ys.length → inB long 0 60 = true → ((∀ j, k ≤ j → j < ys.length → badAt long ys j = true) ↔ BadSeq long (lowAt ys k) (ys.drop k)) := by
    intro d
    induction d with
    | zero =>
      intro k hk _
      rw [List.drop_of_length_le (by omega)]
      exact ⟨fun _ => trivial, fun _ j hj hj2 => by omega⟩
    | succ d ih =>
      intro k hk hl
      obtain ⟨⟨x, y⟩, hy⟩ : ∃ q, ys[k]? = some q := ⟨_, List.getElem?_eq_getElem (by omega)⟩
      have ih := ih (k + 1) (by omega) hl
      rw [lowAt_succ hy] at ih
      rw [drop_pair hy]
      constructor
      · intro h
        have a := h k (Nat.le_refl _) (by omega)
        rw [badAt_eq hy, Bool.and_eq_true, inB_iff, inB_iff] at a
        exact ⟨a.1.1, by omega, by omega, ih.1 fun j hj hj2 => h j (by omega) hj2⟩
      · rintro ⟨a, b, c, e⟩ j hj hj2
        by_cases ej : j = k
        · subst ej
          rw [badAt_eq hy, inB_true a (by omega), inB_true (by omega) c]; rfl
        · exact ih.2 e j (by omega) hj2
  simp only [badOk, Bool.and_eq_true, decide_eq_true_eq, List.all_eq_true]
  constructor
  · rintro ⟨a, b, c⟩
    have := (key ys.length 0 (by omega) a).1 fun j _ hj => c j (List.mem_range.2 hj)
    rw [List.drop_zero] at this
    exact ⟨a, b, this⟩
  · rintro ⟨a, b, c⟩
    refine ⟨a, b, fun j hj => (key ys.length 0 (by omega) a).2 (by rw [List.drop_zero]; exact c) j (Nat.zero_le _) (List.mem_range.1 hj)⟩
theorem BadSeq.lower {lo lo' : Int} {ys : List (Int × Int)} (h : BadSeq long lo ys) (hl : lo' ≤ lo) : BadSeq long lo' ys := by
  cases ys with
  | nil => trivial
  | cons b r => obtain ⟨x, y⟩ := b; exact ⟨Int.le_trans hl h.1, h.2⟩
theorem BadSeq.tail {lo : Int} {b : Int × Int} {ys : List (Int × Int)} (h : BadSeq long lo (b :: ys)) : BadSeq long lo ys := by
  obtain ⟨x, y⟩ := b
  exact BadSeq.lower h.2.2.2 (by have := h.1; have := h.2.1; omega)
theorem BadSeq.erase : ∀ (ys : List (Int × Int)) (lo : Int) (k : Nat), BadSeq long lo ys → BadSeq long lo (ys.take k ++ ys.drop (k + 1)) := by
  intro ys
  induction ys with
  | nil => intro lo k h; simpa using h
  | cons b r ih =>
    intro lo k h
    cases k with
    | zero => simpa using h.tail
    | succ k =>
      obtain ⟨x, y⟩ := b
      simp only [List.take_succ_cons, List.drop_succ_cons, List.cons_append]
      exact ⟨h.1, h.2.1, h.2.2.1, ih _ k h.2.2.2⟩
theorem badOk_erase {ys : List (Int × Int)} (h : badOk long ys = true) (k : Nat) : badOk long (ys.take k ++ ys.drop (k + 1)) = true := by
  obtain ⟨a, b, c⟩ := badOk_seq.1 h
  exact badOk_seq.2 ⟨a, by rw [List.length_append, List.length_take, List.length_drop]; omega, BadSeq.erase _ _ k c⟩
theorem badOk_drop1 {b : Int × Int} {ys : List (Int × Int)} (h : badOk long (b :: ys) = true) : badOk long ys = true := by
  obtain ⟨a, c, e⟩ := badOk_seq.1 h
  exact badOk_seq.2 ⟨a, by simp at c; omega, e.tail⟩
theorem badOk_zero (ys : List (Int × Int)) : badOk long ((0, 0) :: ys) = false := by
  cases h : badOk long ((0, 0) :: ys)
  · rfl
  · obtain ⟨_, _, c⟩ := badOk_seq.1 h
    have := c.2.1; omega
theorem SeqIn.erase (h : lengthsOk ls = true) {hi : Int} : ∀ (zs : List (Int × Int)) (lo : Int) (k : Nat), SeqIn ls hi lo zs → SeqIn ls hi lo (zs.take k ++ zs.drop (k + 1)) := by
  intro zs
  induction zs with
  | nil => intro lo k hs; simpa using hs
  | cons s r ih =>
    intro lo k hs
    obtain ⟨p, q⟩ := s
    obtain ⟨a, ⟨j, b⟩, c⟩ := hs
    have l1 := (lengthsOk_get h b).1
    cases k with
    | zero =>
      simp only [List.take_zero, List.nil_append, List.drop_succ_cons, List.drop_zero]
      exact c.lower (by omega)
    | succ k =>
      simp only [List.take_succ_cons, List.drop_succ_cons, List.cons_append]
      exact ⟨a, ⟨j, b⟩, ih _ k c⟩
/-- any slab can be left out -/
theorem slabsOk_erase {ys zs : List (Int × Int)} (h : slabsOk long ys ls zs = true) (k : Nat) : slabsOk long ys ls (zs.take k ++ zs.drop (k + 1)) = true := by
  obtain ⟨a, b, c, d⟩ := slabsOk_seq.1 h
  refine slabsOk_seq.2 ⟨a, b, SeqIn.erase b _ _ k c, fun s hs => d s ?_⟩
  rcases List.mem_append.1 hs with hs | hs
  · exact List.mem_of_mem_take hs
  · exact List.mem_of_mem_drop hs
/-- no slab has a bad place -/
theorem slabs_good {ys zs : List (Int × Int)} {k j : Nat} {x y u v t : Int} (h : slabsOk long ys ls zs = true) (hz : zs[k]? = some (x, y)) (hy : ys[j]? = some (u, v)) (h1 : u ≤ t) (h2 : t < v) : ¬ (x ≤ t ∧ t < x + y) := by
  obtain ⟨a, b, c, d⟩ := slabsOk_seq.1 h
  have := d (x, y) (List.mem_of_getElem? hz) (u, v) (List.mem_of_getElem? hy)
  simp only at this
  omega
/-- the best slabs are slabs, and what they waste -/
theorem best_facts2 {ys : List (Int × Int)} (h1 : badOk long ys = true) (h2 : lengthsOk ls = true) : slabsOk long ys ls (slabsBest long ys ls) = true ∧ slabsLeast long ys ls = W ls long 0 ys := by
  obtain ⟨a, b, c⟩ := badOk_seq.1 h1
  obtain ⟨l0, l1⟩ := inB_iff.1 a
  have e : slabsBest long ys ls = bestL ls (gp long 0 ys) := by rw [slabsBest_3 h1 h2, bestTo_L, goodParts_gp h1]
  obtain ⟨s1, s2, s3⟩ := best_all h2 l1 ys 0 (Int.le_refl _) l0 c
  have ok : slabsOk long ys ls (slabsBest long ys ls) = true := slabsOk_seq.2 ⟨h1, h2, by rw [e]; exact s1, by rw [e]; exact s2⟩
  refine ⟨ok, ?_⟩
  unfold slabsLeast
  rw [slabsWaste_sum ok, e, s3]; omega
theorem slabsLeast_valid {ys : List (Int × Int)} (h : 0 ≤ slabsLeast long ys ls) : badOk long ys = true ∧ lengthsOk ls = true := by
  cases h1 : badOk long ys
  · have : slabsLeast long ys ls = -1 := slabsWaste_no (slabsOk_1 h1)
    omega
  cases h2 : lengthsOk ls
  · have : slabsLeast long ys ls = -1 := slabsWaste_no (slabsOk_2 h2)
    omega
  · exact ⟨rfl, rfl⟩
theorem slabsLeast_neg {ys : List (Int × Int)} (h : slabsLeast long ys ls < 0) : slabsLeast long ys ls = -1 := slabsWaste_neg h
/-- however slabs are cut, at least as much is wasted, and at least what is bad -/
theorem slabsLeast_le {ys zs : List (Int × Int)} (h : 0 ≤ slabsWaste long ys ls zs) : sumBad ys ≤ slabsLeast long ys ls ∧ slabsLeast long ys ls ≤ slabsWaste long ys ls zs := by
  have ok : slabsOk long ys ls zs = true := by
    cases hc : slabsOk long ys ls zs
    · rw [slabsWaste_no hc] at h; omega
    · rfl
  obtain ⟨a, b, c, d⟩ := slabsOk_seq.1 ok
  obtain ⟨_, e⟩ := best_facts2 a b
  have := W_least b ys 0 zs (badOk_seq.1 a).2.2 c d
  rw [e, slabsWaste_sum ok]
  exact ⟨W_bad b ys 0, by omega⟩
/-- without any one bad stretch no more is wasted -/
theorem slabsLeast_erase {ys : List (Int × Int)} (h : 0 ≤ slabsLeast long ys ls) (k : Nat) : slabsLeast long (ys.take k ++ ys.drop (k + 1)) ls ≤ slabsLeast long ys ls := by
  obtain ⟨h1, h2⟩ := slabsLeast_valid h
  obtain ⟨ok, e⟩ := best_facts2 h1 h2
  obtain ⟨_, e'⟩ := best_facts2 (badOk_erase h1 k) h2
  obtain ⟨a, b, c, d⟩ := slabsOk_seq.1 ok
  have := W_least h2 (ys.take k ++ ys.drop (k + 1)) 0 _ (badOk_seq.1 (badOk_erase h1 k)).2.2 c fun s hs b' hb' => d s hs b' (by
    rcases List.mem_append.1 hb' with hb' | hb'
    · exact List.mem_of_mem_take hb'
    · exact List.mem_of_mem_drop hb')
  rw [e']
  have w := slabsWaste_sum ok
  unfold slabsLeast
  omega
theorem slabsLeast_bounds {ys : List (Int × Int)} (h : 0 ≤ slabsLeast long ys ls) : slabsLeast long ys ls ≤ long ∧ cutLeast long ls ≤ slabsLeast long ys ls := by
  obtain ⟨h1, h2⟩ := slabsLeast_valid h
  obtain ⟨ok, e⟩ := best_facts2 h1 h2
  obtain ⟨a, b, c, d⟩ := slabsOk_seq.1 ok
  have l := badOk_long h1
  have s := SeqIn.le h2 _ _ c
  have w := slabsWaste_sum ok
  have t := seq_waste h2 c
  obtain ⟨N, rfl⟩ : ∃ N : Nat, long = (N : Int) := ⟨long.toNat, by omega⟩
  rw [cutLeast_tb (inB_true l.1 l.2) h2]
  rw [show ((N : Int) - 0).toNat = N by omega] at t
  unfold slabsLeast
  omega
/-- without bad stretches the best slabs waste what the best cuts waste -/
theorem slabsBest_nil (h1 : inB long 0 60 = true) (h2 : lengthsOk ls = true) : slabsWaste long [] ls (slabsBest long [] ls) = cutLeast long ls := by
  obtain ⟨l0, l1⟩ := inB_iff.1 h1
  have hb : badOk long [] = true := badOk_seq.2 ⟨h1, by simp, trivial⟩
  have := (best_facts2 hb h2).2
  obtain ⟨N, rfl⟩ : ∃ N : Nat, long = (N : Int) := ⟨long.toNat, by omega⟩
  unfold slabsLeast at this
  rw [this, cutLeast_tb h1 h2]
  simp only [W]
  rw [show ((N : Int) - 0).toNat = N by omega]
/-! ### good parts -/
theorem goodParts_law {ys : List (Int × Int)} (h : badOk long ys = true) : sumBad ys + sumBad (goodParts long ys) = long ∧ ∀ (k : Nat) (x y : Int), (goodParts long ys)[k]? = some (x, y) → x < y ∧ ∀ (m : Nat) (u v : Int), k = m + 1 → (goodParts long ys)[m]? = some (u, v) → v < x := by
  obtain ⟨a, b, c⟩ := badOk_seq.1 h
  obtain ⟨l0, l1⟩ := inB_iff.1 a
  rw [goodParts_gp h]
  have sb : ∀ a b : List (Int × Int), sumBad (a ++ b) = sumBad a + sumBad b := by
    intro a b
    induction a with
    | nil => simp [sumBad]
    | cons s r ih => simp only [List.cons_append, sumBad, ih]; omega
  have key : ∀ (ys : List (Int × Int)) (lo : Int), lo ≤ long → BadSeq long lo ys → sumBad ys + sumBad (gp long lo ys) = long - lo ∧
      (∀ q ∈ gp long lo ys, lo ≤ q.1 ∧ q.1 < q.2) ∧ ∀ (m : Nat) (u v x y : Int), (gp long lo ys)[m]? = some (u, v) → (gp long lo ys)[m + 1]? = some (x, y) → v < x := by
    intro ys
    induction ys with
    | nil =>
      intro lo h1 _
      simp only [gp]
      by_cases hc : lo < long
      · rw [if_pos hc]
        refine ⟨by simp [sumBad] <;> omega, fun q hq => by simp at hq; subst hq; exact ⟨Int.le_refl _, hc⟩, fun m u v x y _ h => by simp at h⟩
      · rw [if_neg hc]
        exact ⟨by simp [sumBad] <;> omega, fun q hq => by simp at hq, fun m u v x y _ h => by simp at h⟩
    | cons b r ih =>
      obtain ⟨x, y⟩ := b
      intro lo h1 hb
      obtain ⟨b1, b2, b3, b4⟩ := hb
      obtain ⟨i1, i2, i3⟩ := ih y b3 (BadSeq.lower b4 (by omega))
      -- behind a bad stretch the next part begins at its end, and the one before ends at its beginning
      simp only [gp]
      by_cases hc : lo < x
      · rw [if_pos hc]
        refine ⟨?_, fun q hq => ?_, fun m u v x' y' hu hv => ?_⟩
        · rw [sb]; simp only [sumBad]; omega
        · rcases List.mem_append.1 hq with hq | hq
          · simp at hq; subst hq; exact ⟨Int.le_refl _, hc⟩
          · have := i2 q hq; omega
        · cases m with
          | zero =>
            simp at hu hv
            have := i2 (x', y') (List.mem_of_getElem? hv)
            simp only at this; omega
          | succ m =>
            simp at hu hv
            exact i3 m u v x' y' hu hv
      · rw [if_neg hc]
        refine ⟨by simp only [List.nil_append, sumBad]; omega, fun q hq => ?_, fun m u v x' y' hu hv => ?_⟩
        · have := i2 q hq; omega
        · exact i3 m u v x' y' hu hv
  obtain ⟨k1, k2, k3⟩ := key ys 0 l0 c
  refine ⟨by omega, fun k x y hk => ⟨(k2 _ (List.mem_of_getElem? hk)).2, fun m u v e hm => ?_⟩⟩
  subst e
  exact k3 m u v x y hm hk
end
end Go.Proofs.YtcegmlogjbnoeaaDoor
