/- Plain law: slabs that are cut from a strand with bad stretches: when they are right, what they waste, and the best ones. -/
import Derived.Test.YtcegmlogjbnoeaaDoorGoodPlain
import Derived.Test.YtcegmlogjbnoeaaDoorBestPlain
namespace Go.Proofs.YtcegmlogjbnoeaaDoor
set_option linter.unusedVariables false
/-- a slab from p on, before q, has a bad place -/
def badHit (p q : Int) (b : Int × Int) : Bool := decide (p < b.2) && decide (b.1 < q)
def slabAt (long : Int) (ys : List (Int × Int)) (ls : List Int) (low : Int) (s : Int × Int) : Bool := hasI ls s.2 && (inB s.1 low (long - s.2) && !ys.any (badHit s.1 (s.1 + s.2)))
def slabLow (zs : List (Int × Int)) : Nat → Int
  | 0 => 0
  | k + 1 => match zs[k]? with | some s => s.1 + s.2 | none => 0
def slabOkAt (long : Int) (ys : List (Int × Int)) (ls : List Int) (zs : List (Int × Int)) (k : Nat) : Bool := match zs[k]? with | some s => slabAt long ys ls (slabLow zs k) s | none => true
def slabsOk (long : Int) (ys : List (Int × Int)) (ls : List Int) (zs : List (Int × Int)) : Bool := badOk long ys && (lengthsOk ls && (List.range zs.length).all (slabOkAt long ys ls zs))
section
variable {long : Int} {ys zs : List (Int × Int)} {ls : List Int}
theorem slabLow_succ {k : Nat} {x y : Int} (h : zs[k]? = some (x, y)) : slabLow zs (k + 1) = x + y := by simp [slabLow, h]
theorem slabOkAt_eq {k : Nat} {x y : Int} (h : zs[k]? = some (x, y)) : slabOkAt long ys ls zs k = (hasI ls y && (inB x (slabLow zs k) (long - y) && !ys.any (badHit x (x + y)))) := by simp [slabOkAt, h, slabAt]
theorem slabsOk_1 (h : badOk long ys = false) : slabsOk long ys ls zs = false := by simp [slabsOk, h]
theorem slabsOk_2 (h : lengthsOk ls = false) : slabsOk long ys ls zs = false := by simp [slabsOk, h]
theorem slabsOk_at {k : Nat} (hk : k < zs.length) (h : slabOkAt long ys ls zs k = false) : slabsOk long ys ls zs = false := by
  have : (List.range zs.length).all (slabOkAt long ys ls zs) = false := by
    rw [List.all_eq_false]; exact ⟨k, List.mem_range.2 hk, by simp [h]⟩
  simp [slabsOk, this]
theorem slabsOk_3 {k : Nat} {x y : Int} (h : zs[k]? = some (x, y)) (hc : hasI ls y = false) : slabsOk long ys ls zs = false :=
  slabsOk_at (List.getElem?_eq_some_iff.1 h).1 (by rw [slabOkAt_eq h, hc]; rfl)
theorem slabsOk_4 {k : Nat} {x y : Int} (h : zs[k]? = some (x, y)) (hc : inB x (slabLow zs k) (long - y) = false) : slabsOk long ys ls zs = false :=
  slabsOk_at (List.getElem?_eq_some_iff.1 h).1 (by rw [slabOkAt_eq h, hc]; simp)
theorem slabsOk_5 {k j : Nat} {x y u v : Int} (h : zs[k]? = some (x, y)) (hb : ys[j]? = some (u, v)) (h1 : x < v) (h2 : u < x + y) : slabsOk long ys ls zs = false := by
  refine slabsOk_at (List.getElem?_eq_some_iff.1 h).1 ?_
  have : ys.any (badHit x (x + y)) = true := List.any_eq_true.2 ⟨(u, v), List.mem_of_getElem? hb, by simp [badHit, h1, h2]⟩
  rw [slabOkAt_eq h, this]; simp
theorem slabsOk_mk (h1 : badOk long ys = true) (h2 : lengthsOk ls = true) (h3 : (List.range zs.length).all (slabOkAt long ys ls zs) = true) : slabsOk long ys ls zs = true := by simp only [slabsOk, h1, h2, h3, Bool.and_self]
theorem slabOkAt_mk {k : Nat} {x y : Int} (h : zs[k]? = some (x, y)) (h1 : hasI ls y = true) (h2 : inB x (slabLow zs k) (long - y) = true) (h3 : ys.any (badHit x (x + y)) = false) : slabOkAt long ys ls zs k = true := by rw [slabOkAt_eq h, h1, h2, h3]; rfl
theorem anyHit_succ {x e u v : Int} {k : Nat} (h : (ys.take k).any (badHit x e) = false) (hb : ys[k]? = some (u, v)) (hn : ¬ (x < v ∧ u < e)) : (ys.take (k + 1)).any (badHit x e) = false := by
  rw [List.take_add_one, hb, Option.toList_some, List.any_append, h]
  simp only [List.any_cons, List.any_nil, Bool.or_false, Bool.false_or, badHit]
  rw [Bool.and_eq_false_iff]
  simp only [decide_eq_false_iff_not]
  omega
theorem contains_get {y : Int} (h : hasI ls y = true) : ∃ k : Nat, ls[k]? = some y := by
  unfold hasI at h; rw [List.contains_iff_mem] at h
  exact List.getElem?_of_mem h
theorem contains_bounds {y : Int} (hl : lengthsOk ls = true) (h : hasI ls y = true) : 1 ≤ y ∧ y ≤ 60 := by
  obtain ⟨k, hk⟩ := contains_get h
  exact lengthsOk_get hl hk
theorem badOk_long (h : badOk long ys = true) : 0 ≤ long ∧ long ≤ 60 := by
  simp only [badOk, Bool.and_eq_true] at h; exact inB_iff.1 h.1
theorem badOk_facts (h : badOk long ys = true) {k : Nat} {x y : Int} (hk : ys[k]? = some (x, y)) : lowAt ys k ≤ x ∧ 0 ≤ x ∧ x < y ∧ y ≤ long := by
  simp only [badOk, Bool.and_eq_true] at h
  have hlt := (List.getElem?_eq_some_iff.1 hk).1
  have ha := List.all_eq_true.1 h.2.2
  have key : ∀ (k : Nat) (x y : Int), ys[k]? = some (x, y) → lowAt ys k ≤ x ∧ 0 ≤ x ∧ x < y ∧ y ≤ long := by
    intro k
    induction k with
    | zero =>
      intro x y hk
      have := ha 0 (List.mem_range.2 (List.getElem?_eq_some_iff.1 hk).1)
      rw [badAt_eq hk, Bool.and_eq_true, inB_iff, inB_iff] at this
      simp only [lowAt] at *
      omega
    | succ k ih =>
      intro x y hk
      have hlt := (List.getElem?_eq_some_iff.1 hk).1
      obtain ⟨⟨a, b⟩, hp⟩ : ∃ q, ys[k]? = some q := ⟨_, List.getElem?_eq_getElem (by omega)⟩
      have h1 := ih a b hp
      have := ha (k + 1) (List.mem_range.2 hlt)
      rw [badAt_eq hk, Bool.and_eq_true, inB_iff, inB_iff, lowAt_succ hp] at this
      rw [lowAt_succ hp]
      omega
  exact key k x y hk
end
/-- the length of the strand less that of the first k slabs -/
def wasteTo (long : Int) (zs : List (Int × Int)) : Nat → Int
  | 0 => long
  | k + 1 => wasteTo long zs k - (match zs[k]? with | some s => s.2 | none => 0)
def slabsWaste (long : Int) (ys : List (Int × Int)) (ls : List Int) (zs : List (Int × Int)) : Int := if slabsOk long ys ls zs then wasteTo long zs zs.length else -1
section
variable {long : Int} {ys zs : List (Int × Int)} {ls : List Int}
theorem wasteTo_succ {k : Nat} {x y : Int} (h : zs[k]? = some (x, y)) : wasteTo long zs (k + 1) = wasteTo long zs k - y := by simp [wasteTo, h]
theorem slabsWaste_no (h : slabsOk long ys ls zs = false) : slabsWaste long ys ls zs = -1 := by simp [slabsWaste, h]
theorem slabsWaste_ok (h : slabsOk long ys ls zs = true) : slabsWaste long ys ls zs = wasteTo long zs zs.length := by simp [slabsWaste, h]
theorem slabsOk_facts (h : slabsOk long ys ls zs = true) : badOk long ys = true ∧ lengthsOk ls = true ∧ ∀ k, k < zs.length → slabOkAt long ys ls zs k = true := by
  simp only [slabsOk, Bool.and_eq_true] at h
  exact ⟨h.1, h.2.1, fun k hk => List.all_eq_true.1 h.2.2 k (List.mem_range.2 hk)⟩
/-- slabs that are right are within the strand -/
theorem slabs_low (h : slabsOk long ys ls zs = true) (k : Nat) (hk : k ≤ zs.length) : long - wasteTo long zs k ≤ slabLow zs k ∧ slabLow zs k ≤ long ∧ (k : Int) ≤ long - wasteTo long zs k ∧ 0 ≤ slabLow zs k := by
  obtain ⟨hb, hl, ha⟩ := slabsOk_facts h
  have := badOk_long hb
  induction k with
  | zero => simp only [wasteTo, slabLow]; omega
  | succ k ih =>
    have ih := ih (by omega)
    obtain ⟨⟨x, y⟩, hz⟩ : ∃ q, zs[k]? = some q := ⟨_, List.getElem?_eq_getElem (by omega)⟩
    have h1 := ha k (by omega)
    rw [slabOkAt_eq hz, Bool.and_eq_true, Bool.and_eq_true, inB_iff] at h1
    have := contains_bounds hl h1.1
    rw [wasteTo_succ hz, slabLow_succ hz]
    omega
theorem wasteTo_bounds (h : slabsOk long ys ls zs = true) (k : Nat) (hk : k ≤ zs.length) : 0 ≤ wasteTo long zs k ∧ wasteTo long zs k ≤ 60 ∧ k ≤ 60 := by
  have := slabs_low h k hk
  have := badOk_long (slabsOk_facts h).1
  omega
end
/-! ### the best slabs -/
/-- m slabs of length l from place p on -/
def layOne (p l : Int) : Nat → List (Int × Int)
  | 0 => []
  | m + 1 => layOne p l m ++ [(p + m * l, l)]
theorem layOne_length (p l : Int) (m : Nat) : (layOne p l m).length = m := by
  induction m with
  | zero => rfl
  | succ m ih => simp [layOne, ih]
/-- slabs of all lengths, those of the last length of the list first; and where they end -/
def layAll (p : Int) : List Int → List Int → List (Int × Int) × Int
  | l :: ls, m :: ms => ((layAll p ls ms).1 ++ layOne (layAll p ls ms).2 l m.toNat, (layAll p ls ms).2 + m * l)
  | _, _ => ([], p)
theorem layAll_drop {p l m : Int} {ls ms : List Int} {k : Nat} (hl : ls[k]? = some l) (hm : ms[k]? = some m) :
    layAll p (ls.drop k) (ms.drop k) = ((layAll p (ls.drop (k + 1)) (ms.drop (k + 1))).1 ++ layOne (layAll p (ls.drop (k + 1)) (ms.drop (k + 1))).2 l m.toNat, (layAll p (ls.drop (k + 1)) (ms.drop (k + 1))).2 + m * l) := by
  rw [drop_get hl, drop_get hm]; rfl
theorem layAll_end {p : Int} {ls ms : List Int} {k : Nat} (h : ls.length ≤ k) : layAll p (ls.drop k) (ms.drop k) = ([], p) := by
  rw [List.drop_of_length_le h]; rfl
/-- all good parts, one behind the other -/
def bestTo (ls : List Int) (gs : List (Int × Int)) : Nat → List (Int × Int)
  | 0 => []
  | k + 1 => bestTo ls gs k ++ (match gs[k]? with | some g => (layAll g.1 ls (cutBest (g.2 - g.1) ls)).1 | none => [])
theorem bestTo_succ {ls : List Int} {gs : List (Int × Int)} {k : Nat} {x y : Int} (h : gs[k]? = some (x, y)) : bestTo ls gs (k + 1) = bestTo ls gs k ++ (layAll x ls (cutBest (y - x) ls)).1 := by simp [bestTo, h]
def slabsBest (long : Int) (ys : List (Int × Int)) (ls : List Int) : List (Int × Int) := if badOk long ys && lengthsOk ls then bestTo ls (goodParts long ys) (goodParts long ys).length else []
theorem slabsBest_1 {long : Int} {ys : List (Int × Int)} {ls : List Int} (h : badOk long ys = false) : slabsBest long ys ls = [] := by simp [slabsBest, h]
theorem slabsBest_2 {long : Int} {ys : List (Int × Int)} {ls : List Int} (h : lengthsOk ls = false) : slabsBest long ys ls = [] := by simp [slabsBest, h]
theorem slabsBest_3 {long : Int} {ys : List (Int × Int)} {ls : List Int} (h : badOk long ys = true) (h2 : lengthsOk ls = true) : slabsBest long ys ls = bestTo ls (goodParts long ys) (goodParts long ys).length := by simp [slabsBest, h, h2]
def slabsLeast (long : Int) (ys : List (Int × Int)) (ls : List Int) : Int := slabsWaste long ys ls (slabsBest long ys ls)
end Go.Proofs.YtcegmlogjbnoeaaDoor
