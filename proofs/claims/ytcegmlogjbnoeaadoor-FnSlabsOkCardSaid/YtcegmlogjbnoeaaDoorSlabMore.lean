/- Plain law: what the best slabs are made of: bounds of the good parts, and of what is laid into them. -/
import Derived.Test.YtcegmlogjbnoeaaDoorSlabPlain
namespace Go.Proofs.YtcegmlogjbnoeaaDoor
set_option linter.unusedVariables false
section
variable {long : Int} {ys : List (Int × Int)} {ls : List Int}
/-- where the next good part begins is behind all bad stretches so far -/
theorem fromTo_bounds (h : badOk long ys = true) (k : Nat) : 0 ≤ fromTo ys k ∧ fromTo ys k ≤ long := by
  have hl := badOk_long h
  induction k with
  | zero => simp only [fromTo]; omega
  | succ k ih =>
    cases hy : ys[k]? with
    | none => simp only [fromTo, hy]; exact ih
    | some q =>
      obtain ⟨x, y⟩ := q
      have := badOk_facts h hy
      rw [fromTo_succ hy]; omega
theorem partsTo_mem (h : badOk long ys = true) (k : Nat) : ∀ q ∈ partsTo ys k, 0 ≤ q.1 ∧ q.1 < q.2 ∧ q.2 ≤ long := by
  induction k with
  | zero => intro q hq; simp [partsTo] at hq
  | succ k ih =>
    intro q hq
    cases hy : ys[k]? with
    | none => simp only [partsTo, hy] at hq; exact ih q hq
    | some p =>
      obtain ⟨x, y⟩ := p
      have := badOk_facts h hy
      have hf := fromTo_bounds h k
      by_cases hc : fromTo ys k < x
      · rw [partsTo_yes hy hc, List.mem_append, List.mem_singleton] at hq
        rcases hq with hq | rfl
        · exact ih q hq
        · simp only; omega
      · rw [partsTo_no hy hc] at hq; exact ih q hq
theorem goodParts_get (h : badOk long ys = true) {k : Nat} {x y : Int} (hk : (goodParts long ys)[k]? = some (x, y)) : 0 ≤ x ∧ x < y ∧ y ≤ long := by
  have hm := List.mem_of_getElem? hk
  have hf := fromTo_bounds h ys.length
  by_cases hc : fromTo ys ys.length < long
  · rw [goodParts_more h hc, List.mem_append, List.mem_singleton] at hm
    rcases hm with hm | hm
    · exact partsTo_mem h _ _ hm
    · injection hm with a b; omega
  · rw [goodParts_same h hc] at hm; exact partsTo_mem h _ _ hm
theorem partsTo_len (ys : List (Int × Int)) (k : Nat) : (partsTo ys k).length ≤ k := by
  induction k with
  | zero => simp [partsTo]
  | succ k ih =>
    simp only [partsTo]
    split
    · split
      · simp; omega
      · omega
    · omega
theorem goodParts_len5 (long : Int) (ys : List (Int × Int)) : (goodParts long ys).length ≤ 5 := by
  cases h : badOk long ys
  · rw [goodParts_no h]; simp
  · have := badOk_len h
    have := partsTo_len ys ys.length
    by_cases hc : fromTo ys ys.length < long
    · rw [goodParts_more h hc]; simp; omega
    · rw [goodParts_same h hc]; omega
theorem lengths_mem (h : lengthsOk ls = true) : ∀ l ∈ ls, 1 ≤ l := fun l hl => by
  obtain ⟨k, hk⟩ := List.getElem?_of_mem hl
  exact (lengthsOk_get h hk).1
theorem cbAll_fst_drop {T : List Int} {v left : Int} : ∀ (ls : List Int) (k : Nat), (cbAll T v ls left).1.drop k = (cbAll T v (ls.drop k) left).1 := by
  intro ls
  induction ls with
  | nil => intro k; simp [cbAll]
  | cons l r ih =>
    intro k
    cases k with
    | zero => rfl
    | succ k => simp only [cbAll, List.drop_succ_cons]; exact ih k
/-- laid slabs end where as much is left as the table's way leaves -/
theorem layAll_cb {T : List Int} {v left p : Int} (h0 : 0 ≤ left) : ∀ ls : List Int, (∀ l ∈ ls, 1 ≤ l) →
    (layAll p ls (cbAll T v ls left).1).2 = p + (left - (cbAll T v ls left).2) ∧ ((layAll p ls (cbAll T v ls left).1).1.length : Int) ≤ left - (cbAll T v ls left).2 := by
  intro ls
  induction ls with
  | nil => intro _; simp [cbAll, layAll]
  | cons l r ih =>
    intro h1
    obtain ⟨a, b⟩ := ih (fun x hx => h1 x (List.mem_cons_of_mem _ hx))
    have hl := h1 l List.mem_cons_self
    have c := cbAll_left (T := T) (v := v) (ls := r) (fun x hx => h1 x (List.mem_cons_of_mem _ hx)) h0
    obtain ⟨d0, d1, d2, d3, d4, _⟩ := cb_facts (T := T) (v := v) hl _ _ c.1 (Nat.le_refl _)
    simp only [cbAll, layAll]
    generalize (cbAll T v r left).2 = q at *
    generalize cbN T v l q = m at *
    refine ⟨by rw [a]; omega, ?_⟩
    rw [List.length_append, layOne_length, Int.natCast_add]
    omega
/-- a part's cuts, seen from place k on -/
structure CutFacts (ls : List Int) (x y : Int) (k : Nat) : Prop where
  low : x ≤ (layAll x (ls.drop k) ((cutBest (y - x) ls).drop k)).2
  high : (layAll x (ls.drop k) ((cutBest (y - x) ls).drop k)).2 ≤ y
  len : ((layAll x (ls.drop k) ((cutBest (y - x) ls).drop k)).1.length : Int) ≤ y - x
theorem cutBest_length {x y : Int} (h : lengthsOk ls = true) (h0 : 0 ≤ x) (h1 : x < y) (h2 : y ≤ 60) : (cutBest (y - x) ls).length = ls.length := by
  have hb : inB (y - x) 0 60 = true := inB_true (by omega) (by omega)
  simp only [cutBest, hb, h, Bool.and_self, if_true]
  exact cbAll_length _ _ _ _
theorem cut_facts {x y : Int} (h : lengthsOk ls = true) (h0 : 0 ≤ x) (h1 : x < y) (h2 : y ≤ 60) (k : Nat) : CutFacts ls x y k := by
  have hb : inB (y - x) 0 60 = true := inB_true (by omega) (by omega)
  have e : cutBest (y - x) ls = (cbAll (table ls ((y - x).toNat + 1)) (cutLeast (y - x) ls) ls (y - x)).1 := by simp only [cutBest, hb, h, Bool.and_self, if_true]
  have hm : ∀ l ∈ ls.drop k, 1 ≤ l := fun l hl => lengths_mem h l (List.mem_of_mem_drop hl)
  obtain ⟨a, b⟩ := layAll_cb (T := table ls ((y - x).toNat + 1)) (v := cutLeast (y - x) ls) (left := y - x) (p := x) (by omega) (ls.drop k) hm
  have c := cbAll_left (T := table ls ((y - x).toNat + 1)) (v := cutLeast (y - x) ls) (left := y - x) hm (by omega)
  constructor
  · rw [e, cbAll_fst_drop, a]; omega
  · rw [e, cbAll_fst_drop, a]; omega
  · rw [e, cbAll_fst_drop]; omega
/-- how many of one length, and where they end -/
theorem cut_one {x y l m : Int} {k : Nat} (h : lengthsOk ls = true) (h0 : 0 ≤ x) (h1 : x < y) (h2 : y ≤ 60) (hl : ls[k]? = some l) (hm : (cutBest (y - x) ls)[k]? = some m) :
    0 ≤ m ∧ m ≤ 60 ∧ ∀ c : Nat, (c : Int) ≤ m → x ≤ (layAll x (ls.drop (k + 1)) ((cutBest (y - x) ls).drop (k + 1))).2 + c * l ∧ (layAll x (ls.drop (k + 1)) ((cutBest (y - x) ls).drop (k + 1))).2 + c * l ≤ y := by
  have a := cut_facts h h0 h1 h2 k
  have b := cut_facts h h0 h1 h2 (k + 1)
  have l1 := lengthsOk_get h hl
  have hb : inB (y - x) 0 60 = true := inB_true (by omega) (by omega)
  have e : cutBest (y - x) ls = (cbAll (table ls ((y - x).toNat + 1)) (cutLeast (y - x) ls) ls (y - x)).1 := by simp only [cutBest, hb, h, Bool.and_self, if_true]
  have m0 : 0 ≤ m := by
    have hd := drop_get hm
    rw [e, cbAll_fst_drop, cbAll_drop hl] at hd
    injection hd with hd1 _
    rw [← hd1]
    have hmm : ∀ l ∈ ls.drop (k + 1), 1 ≤ l := fun l hl => lengths_mem h l (List.mem_of_mem_drop hl)
    have c := cbAll_left (T := table ls ((y - x).toNat + 1)) (v := cutLeast (y - x) ls) (left := y - x) hmm (by omega)
    exact (cb_facts l1.1 _ _ c.1 (Nat.le_refl _)).1
  have hh := a.high
  rw [layAll_drop hl hm] at hh
  simp only at hh
  have lo := b.low
  generalize (layAll x (ls.drop (k + 1)) ((cutBest (y - x) ls).drop (k + 1))).2 = q at *
  have ml : m ≤ m * l := by have := Int.mul_le_mul_of_nonneg_left l1.1 m0; omega
  refine ⟨m0, by omega, fun c hc => ?_⟩
  have c1 : (c : Int) * l ≤ m * l := Int.mul_le_mul_of_nonneg_right hc (by omega)
  have c2 : 0 ≤ (c : Int) * l := Int.mul_nonneg (by omega) (by omega)
  omega
theorem bestTo_len {gs : List (Int × Int)} (h : lengthsOk ls = true) (hg : ∀ (k : Nat) (x y : Int), gs[k]? = some (x, y) → 0 ≤ x ∧ x < y ∧ y ≤ 60) (k : Nat) : (bestTo ls gs k).length ≤ 60 * k := by
  induction k with
  | zero => simp [bestTo]
  | succ k ih =>
    cases hk : gs[k]? with
    | none => simp only [bestTo, hk, List.append_nil]; omega
    | some q =>
      obtain ⟨x, y⟩ := q
      obtain ⟨a, b, c⟩ := hg k x y hk
      have := (cut_facts h a b c 0).len
      simp only [List.drop_zero] at this
      rw [bestTo_succ hk, List.length_append]; omega
theorem slabsBest_len (long : Int) (ys : List (Int × Int)) (ls : List Int) : (slabsBest long ys ls).length ≤ 1000 := by
  cases h : badOk long ys
  · rw [slabsBest_1 h]; simp
  · cases h2 : lengthsOk ls
    · rw [slabsBest_2 h2]; simp
    · rw [slabsBest_3 h h2]
      have hl := badOk_long h
      have := bestTo_len (gs := goodParts long ys) h2 (fun k x y hk => by have := goodParts_get h hk; omega) (goodParts long ys).length
      have := goodParts_len5 long ys
      omega
end
end Go.Proofs.YtcegmlogjbnoeaaDoor
