/- Plain law: what the laws on slabs of a strand with bad stretches say beside 'the same as the reference'. -/
import Derived.Test.YtcegmlogjbnoeaaDoorSlabMore
import Derived.Test.YtcegmlogjbnoeaaDoorCutFn
namespace Go.Proofs.YtcegmlogjbnoeaaDoor
set_option linter.unusedVariables false
/-- slabs of wanted lengths, one behind the other, from lo on, before hi -/
def SeqIn (ls : List Int) (hi : Int) : Int → List (Int × Int) → Prop
  | lo, [] => lo ≤ hi
  | lo, (p, q) :: r => lo ≤ p ∧ (∃ j : Nat, ls[j]? = some q) ∧ SeqIn ls hi (p + q) r
def NoHits (ys zs : List (Int × Int)) : Prop := ∀ s ∈ zs, ∀ b ∈ ys, ¬ (s.1 < b.2 ∧ b.1 < s.1 + s.2)
def BadSeq (long : Int) : Int → List (Int × Int) → Prop
  | _, [] => True
  | lo, (x, y) :: r => lo ≤ x ∧ x < y ∧ y ≤ long ∧ BadSeq long (y + 1) r
def sumL : List (Int × Int) → Int
  | [] => 0
  | s :: r => s.2 + sumL r
theorem sumL_append (a b : List (Int × Int)) : sumL (a ++ b) = sumL a + sumL b := by
  induction a with
  | nil => simp [sumL]
  | cons s r ih => simp only [List.cons_append, sumL, ih]; omega
section
variable {ls : List Int} {long : Int}
theorem drop_pair {ys : List (Int × Int)} {k : Nat} {q : Int × Int} (h : ys[k]? = some q) : ys.drop k = q :: ys.drop (k + 1) := by
  obtain ⟨hk, rfl⟩ := List.getElem?_eq_some_iff.1 h
  exact List.drop_eq_getElem_cons hk
theorem hasI_of {j : Nat} {y : Int} (h : ls[j]? = some y) : hasI ls y = true := by
  unfold hasI; rw [List.contains_iff_mem]; exact List.mem_of_getElem? h
theorem SeqIn.le (h : lengthsOk ls = true) {hi : Int} : ∀ (zs : List (Int × Int)) (lo : Int), SeqIn ls hi lo zs → lo + sumL zs ≤ hi ∧ 0 ≤ sumL zs := by
  intro zs
  induction zs with
  | nil =>
    intro lo h
    have h' : lo ≤ hi := h
    exact ⟨by simp only [sumL]; omega, Int.le_refl _⟩
  | cons s r ih =>
    obtain ⟨p, q⟩ := s
    intro lo hs
    obtain ⟨a, ⟨j, b⟩, c⟩ := hs
    have := ih _ c
    have := (lengthsOk_get h b).1
    simp only [sumL]; omega
theorem SeqIn.lower {hi lo lo' : Int} : ∀ {zs : List (Int × Int)}, SeqIn ls hi lo zs → lo' ≤ lo → SeqIn ls hi lo' zs := by
  intro zs h hl
  cases zs with
  | nil => exact Int.le_trans hl h
  | cons s r => obtain ⟨p, q⟩ := s; exact ⟨Int.le_trans hl h.1, h.2⟩
theorem SeqIn.higher {hi hi' : Int} (hl : hi ≤ hi') : ∀ (zs : List (Int × Int)) (lo : Int), SeqIn ls hi lo zs → SeqIn ls hi' lo zs := by
  intro zs
  induction zs with
  | nil => intro lo h; exact Int.le_trans h hl
  | cons s r ih => obtain ⟨p, q⟩ := s; intro lo h; exact ⟨h.1, h.2.1, ih _ h.2.2⟩
theorem SeqIn.append {mid hi : Int} {b : List (Int × Int)} (hb : SeqIn ls hi mid b) : ∀ (a : List (Int × Int)) (lo : Int), SeqIn ls mid lo a → SeqIn ls hi lo (a ++ b) := by
  intro a
  induction a with
  | nil => intro lo h; exact hb.lower h
  | cons s r ih => obtain ⟨p, q⟩ := s; intro lo h; exact ⟨h.1, h.2.1, ih _ h.2.2⟩
theorem SeqIn.mem (h : lengthsOk ls = true) {hi : Int} : ∀ (zs : List (Int × Int)) (lo : Int), SeqIn ls hi lo zs → ∀ s ∈ zs, lo ≤ s.1 ∧ s.1 + s.2 ≤ hi ∧ 1 ≤ s.2 := by
  intro zs
  induction zs with
  | nil => intro lo _ s hs; simp at hs
  | cons s r ih =>
    obtain ⟨p, q⟩ := s
    intro lo hs t ht
    obtain ⟨a, ⟨j, b⟩, c⟩ := hs
    have e := SeqIn.le h _ _ c
    have := (lengthsOk_get h b).1
    rcases List.mem_cons.1 ht with rfl | ht
    · simp only; omega
    · have := ih _ c t ht; omega
/-- slabs that are right, said with lists -/
theorem slabsOk_seq {ys zs : List (Int × Int)} : slabsOk long ys ls zs = true ↔ badOk long ys = true ∧ lengthsOk ls = true ∧ SeqIn ls long 0 zs ∧ NoHits ys zs := by
  have key : ∀ (d k : Nat), k + d = zs.length → badOk long ys = true → lengthsOk ls = true → ((∀ j, k ≤ j → j < zs.length → slabOkAt long ys ls zs j = true) ∧ slabLow zs k ≤ long ↔ SeqIn ls long (slabLow zs k) (zs.drop k) ∧ NoHits ys (zs.drop k)) := by
    intro d
    induction d with
    | zero =>
      intro k hk h1 h2
      rw [List.drop_of_length_le (by omega)]
      constructor
      · rintro ⟨_, b⟩; exact ⟨b, fun s hs => by simp at hs⟩
      · rintro ⟨a, _⟩; exact ⟨fun j hj hj2 => by omega, a⟩
    | succ d ih =>
      intro k hk h1 h2
      obtain ⟨⟨x, y⟩, hz⟩ : ∃ q, zs[k]? = some q := ⟨_, List.getElem?_eq_getElem (by omega)⟩
      have hd : zs.drop k = (x, y) :: zs.drop (k + 1) := by
        obtain ⟨hlt, e⟩ := List.getElem?_eq_some_iff.1 hz
        rw [List.drop_eq_getElem_cons hlt, e]
      have ih := ih (k + 1) (by omega) h1 h2
      rw [slabLow_succ hz] at ih
      rw [hd]
      have hany : (ys.any (badHit x (x + y)) = false) ↔ ∀ b ∈ ys, ¬ (x < b.2 ∧ b.1 < x + y) := by
        rw [List.any_eq_false]
        constructor
        · intro h b hb hc
          exact h b hb (by simp [badHit, hc.1, hc.2])
        · intro h b hb hc
          simp only [badHit, Bool.and_eq_true, decide_eq_true_eq] at hc
          exact h b hb hc
      constructor
      · rintro ⟨a, b⟩
        have hk1 := a k (Nat.le_refl _) (by omega)
        rw [slabOkAt_eq hz, Bool.and_eq_true, Bool.and_eq_true, inB_iff] at hk1
        obtain ⟨c1, c2, c3⟩ := hk1
        have cb := contains_bounds h2 c1
        obtain ⟨s1, s2⟩ := ih.1 ⟨fun j hj hj2 => a j (by omega) hj2, by omega⟩
        refine ⟨⟨c2.1, contains_get c1, s1⟩, fun s hs b' hb' => ?_⟩
        rcases List.mem_cons.1 hs with rfl | hs
        · exact hany.1 (by simpa using c3) b' hb'
        · exact s2 s hs b' hb'
      · rintro ⟨⟨a1, ⟨j, a2⟩, a3⟩, b⟩
        have s := ih.2 ⟨a3, fun s hs b' hb' => b s (List.mem_cons_of_mem _ hs) b' hb'⟩
        have l1 := (lengthsOk_get h2 a2).1
        refine ⟨fun i hi hi2 => ?_, by omega⟩
        by_cases e : i = k
        · subst e
          rw [slabOkAt_eq hz, hasI_of a2, inB_true a1 (by omega), hany.2 fun b' hb' => b (x, y) List.mem_cons_self b' hb']; rfl
        · exact s.1 i (by omega) hi2
  constructor
  · intro h
    obtain ⟨h1, h2, h3⟩ := slabsOk_facts h
    have hl := badOk_long h1
    have := (key zs.length 0 (by omega) h1 h2).1 ⟨fun j _ hj => h3 j hj, by simp only [slabLow]; omega⟩
    rw [List.drop_zero] at this
    exact ⟨h1, h2, this⟩
  · rintro ⟨h1, h2, h3⟩
    have := (key zs.length 0 (by omega) h1 h2).2 (by rw [List.drop_zero]; exact h3)
    refine slabsOk_mk h1 h2 ?_
    rw [List.all_eq_true]
    exact fun j hj => this.1 j (Nat.zero_le _) (List.mem_range.1 hj)
theorem wasteTo_sum (long : Int) (zs : List (Int × Int)) : wasteTo long zs zs.length = long - sumL zs := by
  have key : ∀ k, k ≤ zs.length → wasteTo long zs k = long - sumL (zs.take k) := by
    intro k
    induction k with
    | zero => intro _; simp [wasteTo, sumL]
    | succ k ih =>
      intro hk
      obtain ⟨⟨x, y⟩, hz⟩ : ∃ q, zs[k]? = some q := ⟨_, List.getElem?_eq_getElem (by omega)⟩
      rw [wasteTo_succ hz, ih (by omega), List.take_add_one, hz, Option.toList_some, sumL_append]
      simp only [sumL]; omega
  have := key zs.length (Nat.le_refl _)
  rwa [List.take_length] at this
theorem slabsWaste_sum {ys zs : List (Int × Int)} (h : slabsOk long ys ls zs = true) : slabsWaste long ys ls zs = long - sumL zs := by rw [slabsWaste_ok h, wasteTo_sum]
theorem slabsWaste_nonneg {ys zs : List (Int × Int)} (h : slabsOk long ys ls zs = true) : 0 ≤ slabsWaste long ys ls zs := by
  obtain ⟨a, b, c, d⟩ := slabsOk_seq.1 h
  have := SeqIn.le b _ _ c
  rw [slabsWaste_sum h]; omega
theorem slabsWaste_neg {ys zs : List (Int × Int)} (h : slabsWaste long ys ls zs < 0) : slabsWaste long ys ls zs = -1 := by
  cases hc : slabsOk long ys ls zs
  · exact slabsWaste_no hc
  · have := slabsWaste_nonneg hc; omega
/-- in one stretch without bad places at least the table's waste is wasted -/
theorem seq_waste (h : lengthsOk ls = true) {lo hi : Int} {zs : List (Int × Int)} (hs : SeqIn ls hi lo zs) : tb ls (hi - lo).toNat ≤ hi - lo - sumL zs := by
  have key : ∀ (zs : List (Int × Int)) (lo : Int) (N : Nat), SeqIn ls hi lo zs → sumL zs ≤ N → tb ls N ≤ tb ls (N - (sumL zs).toNat) := by
    intro zs
    induction zs with
    | nil => intro lo N _ _; simp [sumL]
    | cons s r ih =>
      obtain ⟨p, q⟩ := s
      intro lo N hs hN
      obtain ⟨a, ⟨j, b⟩, c⟩ := hs
      have l1 := (lengthsOk_get h b).1
      have e := SeqIn.le h _ _ c
      obtain ⟨L, rfl⟩ : ∃ L : Nat, q = (L : Int) := ⟨q.toNat, by omega⟩
      simp only [sumL] at hN ⊢
      have := tb_step h (n := N) b (by omega)
      have := ih _ (N - L) c (by omega)
      rw [show N - ((L : Int) + sumL r).toNat = N - L - (sumL r).toNat by omega]
      omega
  have e := SeqIn.le h _ _ hs
  have := key zs lo (hi - lo).toNat hs (by omega)
  have := tb_le h ((hi - lo).toNat - (sumL zs).toNat)
  omega
/-- the least waste, stretch by stretch -/
def W (ls : List Int) (long : Int) : Int → List (Int × Int) → Int
  | lo, [] => tb ls (long - lo).toNat
  | lo, (x, y) :: r => tb ls (x - lo).toNat + (y - x) + W ls long y r
def sumBad : List (Int × Int) → Int
  | [] => 0
  | b :: r => b.2 - b.1 + sumBad r
theorem W_bad (h : lengthsOk ls = true) : ∀ (ys : List (Int × Int)) (lo : Int), sumBad ys ≤ W ls long lo ys := by
  intro ys
  induction ys with
  | nil => intro lo; exact tb_nonneg h _
  | cons b r ih =>
    obtain ⟨x, y⟩ := b
    intro lo
    have := ih y
    have := tb_nonneg h (x - lo).toNat
    simp only [sumBad, W]; omega
theorem seq_split {x y : Int} (h : lengthsOk ls = true) : ∀ (zs : List (Int × Int)) (lo : Int), lo ≤ x → x < y → y ≤ long → SeqIn ls long lo zs → (∀ s ∈ zs, ¬ (s.1 < y ∧ x < s.1 + s.2)) → ∃ a b, zs = a ++ b ∧ SeqIn ls x lo a ∧ SeqIn ls long y b := by
  intro zs
  induction zs with
  | nil => intro lo h1 h2 h3 hs hn; exact ⟨[], [], rfl, h1, h3⟩
  | cons s r ih =>
    obtain ⟨p, q⟩ := s
    intro lo h1 h2 h3 hs hn
    obtain ⟨a, b, c⟩ := hs
    have hh := hn (p, q) List.mem_cons_self
    simp only at hh
    by_cases hc : p + q ≤ x
    · obtain ⟨a', b', e, sa, sb⟩ := ih (p + q) hc h2 h3 c fun s hs => hn s (List.mem_cons_of_mem _ hs)
      exact ⟨(p, q) :: a', b', by rw [e]; rfl, ⟨a, b, sa⟩, sb⟩
    · exact ⟨[], (p, q) :: r, rfl, h1, ⟨by omega, b, c⟩⟩
/-- no slabs waste less -/
theorem W_least (h : lengthsOk ls = true) : ∀ (ys : List (Int × Int)) (lo : Int) (zs : List (Int × Int)), BadSeq long lo ys → SeqIn ls long lo zs → NoHits ys zs → W ls long lo ys ≤ long - lo - sumL zs := by
  intro ys
  induction ys with
  | nil => intro lo zs _ hs _; exact seq_waste h hs
  | cons b r ih =>
    obtain ⟨x, y⟩ := b
    intro lo zs hb hs hn
    obtain ⟨b1, b2, b3, b4⟩ := hb
    obtain ⟨a, c, e, sa, sc⟩ := seq_split h zs lo b1 b2 b3 hs fun s hs => hn s hs (x, y) List.mem_cons_self
    subst e
    have h1 := seq_waste h sa
    have hb4 : BadSeq long y r := by
      cases r with
      | nil => trivial
      | cons b' r' => obtain ⟨x', y'⟩ := b'; exact ⟨by have := b4.1; omega, b4.2⟩
    have h2 := ih y c hb4 sc fun s hs b' hb' => hn s (List.mem_append_right _ hs) b' (List.mem_cons_of_mem _ hb')
    rw [sumL_append]
    simp only [W]; omega
/-! ### the best slabs -/
def gp (long : Int) : Int → List (Int × Int) → List (Int × Int)
  | lo, [] => if lo < long then [(lo, long)] else []
  | lo, (x, y) :: r => (if lo < x then [(lo, x)] else []) ++ gp long y r
theorem goodParts_gp {ys : List (Int × Int)} (h : badOk long ys = true) : goodParts long ys = gp long 0 ys := by
  have key : ∀ (d k : Nat), k + d = ys.length → (if fromTo ys ys.length < long then partsTo ys ys.length ++ [(fromTo ys ys.length, long)] else partsTo ys ys.length) = partsTo ys k ++ gp long (fromTo ys k) (ys.drop k) := by
    intro d
    induction d with
    | zero =>
      intro k hk
      obtain rfl : k = ys.length := by omega
      rw [List.drop_of_length_le (Nat.le_refl _), gp]
      split <;> simp
    | succ d ih =>
      intro k hk
      obtain ⟨⟨x, y⟩, hy⟩ : ∃ q, ys[k]? = some q := ⟨_, List.getElem?_eq_getElem (by omega)⟩
      rw [ih (k + 1) (by omega), fromTo_succ hy, drop_pair hy, gp]
      by_cases hc : fromTo ys k < x
      · rw [partsTo_yes hy hc, if_pos hc, List.append_assoc]
      · rw [partsTo_no hy hc, if_neg hc]; rfl
  have := key ys.length 0 (by omega)
  rw [List.drop_zero] at this
  simp only [goodParts, h, if_true, this]
  rfl
def bestL (ls : List Int) : List (Int × Int) → List (Int × Int)
  | [] => []
  | g :: r => (layAll g.1 ls (cutBest (g.2 - g.1) ls)).1 ++ bestL ls r
theorem bestL_append (ls : List Int) (a b : List (Int × Int)) : bestL ls (a ++ b) = bestL ls a ++ bestL ls b := by
  induction a with
  | nil => rfl
  | cons g r ih => simp only [List.cons_append, bestL, ih, List.append_assoc]
theorem bestTo_L (ls : List Int) (gs : List (Int × Int)) : bestTo ls gs gs.length = bestL ls gs := by
  have key : ∀ k, k ≤ gs.length → bestTo ls gs k = bestL ls (gs.take k) := by
    intro k
    induction k with
    | zero => intro _; simp [bestTo, bestL]
    | succ k ih =>
      intro hk
      obtain ⟨⟨x, y⟩, hg⟩ : ∃ q, gs[k]? = some q := ⟨_, List.getElem?_eq_getElem (by omega)⟩
      rw [bestTo_succ hg, ih (by omega), List.take_add_one, hg, Option.toList_some, bestL_append]
      simp [bestL]
  have := key gs.length (Nat.le_refl _)
  rwa [List.take_length] at this
theorem layOne_seq {l : Int} {j : Nat} (hl : ls[j]? = some l) (p : Int) : ∀ m : Nat, SeqIn ls (p + m * l) p (layOne p l m) ∧ sumL (layOne p l m) = m * l := by
  intro m
  induction m with
  | zero => exact ⟨by simp [layOne, SeqIn], by simp [layOne, sumL]⟩
  | succ m ih =>
    have e : p + ((m + 1 : Nat) : Int) * l = p + m * l + l := by rw [Int.natCast_add, Int.add_mul]; omega
    constructor
    · rw [layOne, e]
      exact SeqIn.append (mid := p + m * l) (b := [(p + m * l, l)]) ⟨Int.le_refl _, ⟨j, hl⟩, Int.le_refl _⟩ _ _ ih.1
    · rw [layOne, sumL_append, ih.2, Int.natCast_add, Int.add_mul]; simp [sumL]
theorem layAll_seq (p : Int) : ∀ (r ms : List Int), (∀ l ∈ r, ∃ j : Nat, ls[j]? = some l) → (∀ m ∈ ms, 0 ≤ m) → SeqIn ls (layAll p r ms).2 p (layAll p r ms).1 ∧ sumL (layAll p r ms).1 = cutSum r ms ∧ (layAll p r ms).2 = p + cutSum r ms := by
  intro r
  induction r with
  | nil => intro ms _ _; exact ⟨by simp [layAll, SeqIn], by simp [layAll, sumL, cutSum], by simp [layAll, cutSum]⟩
  | cons l r ih =>
    intro ms hr hm
    cases ms with
    | nil => exact ⟨by simp [layAll, SeqIn], by simp [layAll, sumL, cutSum], by simp [layAll, cutSum]⟩
    | cons m ms =>
      obtain ⟨a, b, c⟩ := ih ms (fun x hx => hr x (List.mem_cons_of_mem _ hx)) (fun x hx => hm x (List.mem_cons_of_mem _ hx))
      obtain ⟨j, hj⟩ := hr l List.mem_cons_self
      have m0 := hm m List.mem_cons_self
      obtain ⟨M, rfl⟩ : ∃ M : Nat, m = (M : Int) := ⟨m.toNat, by omega⟩
      obtain ⟨d, e⟩ := layOne_seq hj (layAll p r ms).2 M
      simp only [layAll, cutSum, Int.toNat_natCast]
      refine ⟨SeqIn.append d _ _ a, by rw [sumL_append, b, e]; omega, by rw [c]; omega⟩
/-- one part's best slabs -/
theorem part_best (h : lengthsOk ls = true) {x y : Int} (h0 : 0 ≤ x) (h1 : x < y) (h2 : y ≤ 60) : SeqIn ls y x (layAll x ls (cutBest (y - x) ls)).1 ∧ sumL (layAll x ls (cutBest (y - x) ls)).1 = (y - x) - tb ls (y - x).toNat := by
  have hb : inB (y - x) 0 60 = true := inB_true (by omega) (by omega)
  have hw := cutBest_waste hb h
  obtain ⟨N, hN⟩ : ∃ N : Nat, y - x = (N : Int) := ⟨(y - x).toNat, by omega⟩
  have hc : 0 ≤ cutLeast (y - x) ls := by
    rw [hN] at hb ⊢
    rw [cutLeast_tb hb h]; exact tb_nonneg h N
  have ht : cutLeast (y - x) ls = tb ls (y - x).toNat := by
    rw [hN] at hb ⊢
    rw [cutLeast_tb hb h, Int.toNat_natCast]
  obtain ⟨_, _, c, d, e, f⟩ := cutWaste_valid (long := y - x) (ms := cutBest (y - x) ls) (by rw [hw]; exact hc)
  obtain ⟨s1, s2, s3⟩ := layAll_seq (ls := ls) x ls (cutBest (y - x) ls) (fun l hl => List.getElem?_of_mem hl) d
  refine ⟨SeqIn.higher (by omega) _ _ s1, ?_⟩
  rw [s2]; omega
theorem best_all (h : lengthsOk ls = true) (hl : long ≤ 60) : ∀ (ys : List (Int × Int)) (lo : Int), 0 ≤ lo → lo ≤ long → BadSeq long lo ys →
    SeqIn ls long lo (bestL ls (gp long lo ys)) ∧ NoHits ys (bestL ls (gp long lo ys)) ∧ sumL (bestL ls (gp long lo ys)) = (long - lo) - W ls long lo ys := by
  intro ys
  induction ys with
  | nil =>
    intro lo h0 h1 _
    simp only [gp, W]
    by_cases hc : lo < long
    · obtain ⟨a, b⟩ := part_best h h0 hc hl
      rw [if_pos hc]
      simp only [bestL, List.append_nil]
      exact ⟨a, fun s _ b hb => by simp at hb, b⟩
    · rw [if_neg hc]
      have : (long - lo).toNat = 0 := by omega
      have t0 := tb_le h 0
      have t1 := tb_nonneg h 0
      simp only [bestL, sumL, this]
      refine ⟨h1, fun s hs => by simp at hs, ?_⟩
      simp only [Int.natCast_zero] at t0
      omega
  | cons b r ih =>
    obtain ⟨x, y⟩ := b
    intro lo h0 h1 hb
    obtain ⟨b1, b2, b3, b4⟩ := hb
    have hb4 : BadSeq long y r := by
      cases r with
      | nil => trivial
      | cons b' r' => obtain ⟨x', y'⟩ := b'; exact ⟨by have := b4.1; omega, b4.2⟩
    obtain ⟨s1, s2, s3⟩ := ih y (by omega) b3 hb4
    have first : SeqIn ls x lo (bestL ls (if lo < x then [(lo, x)] else [])) ∧ sumL (bestL ls (if lo < x then [(lo, x)] else [])) = (x - lo) - tb ls (x - lo).toNat := by
      by_cases hc : lo < x
      · rw [if_pos hc]
        obtain ⟨a, b⟩ := part_best h h0 hc (by omega)
        simp only [bestL, List.append_nil]
        exact ⟨a, b⟩
      · rw [if_neg hc]
        have : (x - lo).toNat = 0 := by omega
        have t0 := tb_le h 0
        have t1 := tb_nonneg h 0
        simp only [bestL, sumL, this]
        simp only [Int.natCast_zero] at t0
        exact ⟨b1, by omega⟩
    simp only [gp, W]
    rw [bestL_append]
    have badlow : ∀ (r : List (Int × Int)) (lo : Int), BadSeq long lo r → ∀ b ∈ r, lo ≤ b.1 := by
      intro r
      induction r with
      | nil => intro lo _ b hb; simp at hb
      | cons b' r' ihb =>
        obtain ⟨x', y'⟩ := b'
        intro lo hb b hm
        rcases List.mem_cons.1 hm with rfl | hm
        · exact hb.1
        · have := ihb _ hb.2.2.2 b hm
          have := hb.1
          have := hb.2.1
          omega
    refine ⟨SeqIn.append (s1.lower (by omega)) _ _ first.1, fun s hs b' hb' hh => ?_, by rw [sumL_append, first.2, s3]; omega⟩
    have m1 := SeqIn.mem h _ _ first.1
    have m2 := SeqIn.mem h _ _ s1
    rcases List.mem_append.1 hs with hs | hs <;> rcases List.mem_cons.1 hb' with rfl | hb'
    · have := m1 s hs; simp only at hh; omega
    · have := m1 s hs
      have := badlow r _ b4 b' hb'
      omega
    · have := m2 s hs; simp only at hh; omega
    · exact s2 s hs b' hb' hh
end
end Go.Proofs.YtcegmlogjbnoeaaDoor
