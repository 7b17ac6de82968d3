/- Plain law: orders of few things, each pair beside each other at a cost; the least cost over sets, and the way to the best order. -/
import Derived.Test.YtblbfgoifaddiaaDoorBitSets
namespace Go.Proofs.YtblbfgoifaddiaaDoor
set_option linter.unusedVariables false
/-- a thing that is not in the set -/
def freeB (S j : Nat) : Bool := !S.testBit j
def cntFree (S : Nat) : Nat → Nat
  | 0 => 0
  | k + 1 => cntFree S k + (if freeB S k then 1 else 0)
theorem set_or : ∀ S, S < 64 → ∀ j, j < 6 → S.testBit j = false → (S ||| 2 ^ j) = S + 2 ^ j := by decide +kernel
theorem set_cnt : ∀ S, S < 64 → ∀ j, j < 6 → ∀ n, n < 7 → (S.testBit j = false ∧ j < n ∧ S < 2 ^ n) → S + 2 ^ j < 2 ^ n ∧ cntFree (S ||| 2 ^ j) n + 1 = cntFree S n := by decide +kernel
theorem set_bit : ∀ S, S < 64 → ∀ j, j < 6 → ∀ i, i < 6 → (S ||| 2 ^ j).testBit i = (S.testBit i || decide (i = j)) := by decide +kernel
theorem set_full : ∀ n, n < 7 → ∀ S, S < 2 ^ n → (cntFree S n = 0 → S = 2 ^ n - 1) := by decide +kernel
theorem set_full' : ∀ n, n < 7 → ∀ j, j < n → (2 ^ n - 1).testBit j = true := by decide +kernel
theorem set_none : ∀ n, n < 7 → cntFree 0 n = n ∧ cntFree (2 ^ n - 1) n = 0 := by decide +kernel
theorem cntFree_pos {S j : Nat} : ∀ {n : Nat}, j < n → freeB S j = true → 0 < cntFree S n := by
  intro n
  induction n with
  | zero => intro h; omega
  | succ n ih =>
    intro h hf
    rw [cntFree]
    by_cases e : j = n
    · subst e; rw [if_pos hf]; omega
    · have := ih (by omega) hf; omega
theorem two_pow_le {n : Nat} (h : n ≤ 6) : 2 ^ n ≤ 64 ∧ 0 < 2 ^ n := ⟨by have := Nat.pow_le_pow_right (n := 2) (by decide) h; simpa using this, Nat.pow_pos (by decide)⟩
theorem add_bit {n S j : Nat} (hn : n ≤ 6) (hS : S < 2 ^ n) (hj : j < n) (hf : freeB S j = true) : (S ||| 2 ^ j) = S + 2 ^ j ∧ (S ||| 2 ^ j) < 2 ^ n ∧ cntFree (S ||| 2 ^ j) n + 1 = cntFree S n ∧ (∀ i, i < 6 → (S ||| 2 ^ j).testBit i = (S.testBit i || decide (i = j))) ∧ 0 < 2 ^ j := by
  have h2 := two_pow_le hn
  simp only [freeB, Bool.not_eq_true'] at hf
  have e1 := set_or S (by omega) j (by omega) hf
  obtain ⟨e4, e5⟩ := set_cnt S (by omega) j (by omega) n (by omega) ⟨hf, hj, hS⟩
  have e3 := set_bit S (by omega) j (by omega)
  exact ⟨e1, by rw [e1]; exact e4, e5, e3, Nat.pow_pos (by decide)⟩
/-- the least of what is at hand -/
def mnTo (free : Nat → Bool) (x : Nat → Int) : Nat → Option Int
  | 0 => none
  | k + 1 => if free k then (match mnTo free x k with | none => some (x k) | some b => some (if x k < b then x k else b)) else mnTo free x k
/-- where it is first -/
def amTo (free : Nat → Bool) (x : Nat → Int) : Nat → Option Nat
  | 0 => none
  | k + 1 => if free k then (match amTo free x k with | none => some k | some b => some (if x k < x b then k else b)) else amTo free x k
theorem mnTo_am (free : Nat → Bool) (x : Nat → Int) (k : Nat) : mnTo free x k = (amTo free x k).map x := by
  induction k with
  | zero => rfl
  | succ k ih =>
    rw [mnTo, amTo, ih]
    by_cases hf : free k = true
    · rw [if_pos hf, if_pos hf]
      cases amTo free x k with
      | none => rfl
      | some b => simp only [Option.map_some]; split <;> rfl
    · rw [if_neg hf, if_neg hf]
theorem amTo_some {free : Nat → Bool} {x : Nat → Int} {k b : Nat} (h : amTo free x k = some b) : b < k ∧ free b = true := by
  induction k generalizing b with
  | zero => cases h
  | succ k ih =>
    rw [amTo] at h
    by_cases hf : free k = true
    · rw [if_pos hf] at h
      cases hm : amTo free x k with
      | none => rw [hm] at h; injection h with h; subst h; exact ⟨by omega, hf⟩
      | some b2 =>
        rw [hm] at h
        injection h with h
        have := ih hm
        by_cases hx : x k < x b2
        · rw [if_pos hx] at h; subst h; exact ⟨by omega, hf⟩
        · rw [if_neg hx] at h; subst h; exact ⟨by omega, this.2⟩
    · rw [if_neg hf] at h
      have := ih h
      exact ⟨by omega, this.2⟩
theorem amTo_none {free : Nat → Bool} {x : Nat → Int} {k : Nat} (h : amTo free x k = none) : ∀ j, j < k → free j = false := by
  induction k with
  | zero => intro j hj; omega
  | succ k ih =>
    intro j hj
    rw [amTo] at h
    by_cases hf : free k = true
    · rw [if_pos hf] at h
      cases hm : amTo free x k with
      | none => rw [hm] at h; cases h
      | some b2 => rw [hm] at h; cases h
    · rw [if_neg hf] at h
      by_cases e : j = k
      · subst e; simpa using hf
      · exact ih h j (by omega)
theorem amTo_le {free : Nat → Bool} {x : Nat → Int} {k b : Nat} (h : amTo free x k = some b) : ∀ j, j < k → free j = true → x b ≤ x j := by
  induction k generalizing b with
  | zero => cases h
  | succ k ih =>
    intro j hj hfj
    rw [amTo] at h
    by_cases hf : free k = true
    · rw [if_pos hf] at h
      cases hm : amTo free x k with
      | none =>
        rw [hm] at h; injection h with h; subst h
        by_cases e : j = k
        · subst e; exact Int.le_refl _
        · have := amTo_none hm j (by omega); rw [this] at hfj; cases hfj
      | some b2 =>
        rw [hm] at h
        injection h with h
        by_cases hx : x k < x b2
        · rw [if_pos hx] at h; subst h
          by_cases e : j = k
          · subst e; exact Int.le_refl _
          · have := ih hm j (by omega) hfj; omega
        · rw [if_neg hx] at h; subst h
          by_cases e : j = k
          · subst e; omega
          · exact ih hm j (by omega) hfj
    · rw [if_neg hf] at h
      by_cases e : j = k
      · subst e; exact absurd hfj hf
      · exact ih h j (by omega) hfj
theorem mnTo_congr {free : Nat → Bool} {x y : Nat → Int} {k : Nat} (h : ∀ j, j < k → free j = true → x j = y j) : mnTo free x k = mnTo free y k := by
  induction k with
  | zero => rfl
  | succ k ih =>
    rw [mnTo, mnTo, ih fun j hj => h j (by omega)]
    by_cases hf : free k = true
    · rw [if_pos hf, if_pos hf, h k (by omega) hf]
    · rw [if_neg hf, if_neg hf]
theorem mnTo_none {free : Nat → Bool} {x : Nat → Int} {k : Nat} (h : ∀ j, j < k → free j = false) : mnTo free x k = none := by
  induction k with
  | zero => rfl
  | succ k ih => rw [mnTo, if_neg (by rw [h k (by omega)]; simp), ih fun j hj => h j (by omega)]
section
variable (c : Nat → Nat → Int) (n : Nat)
/-- what is lost at least behind a set, of which l is the last -/
def restF : Nat → Nat → Nat → Int
  | 0, _, _ => 0
  | f + 1, S, l => (mnTo (freeB S) (fun j => c l j + restF f (S ||| 2 ^ j) j) n).getD 0
def behind (S l : Nat) : Int := restF c n (2 ^ n) S l
def cst : Option Nat → Nat → Int
  | none, _ => 0
  | some l, j => c l j
/-- what is lost at least from here on -/
def valOf (l : Option Nat) (S : Nat) : Int := (mnTo (freeB S) (fun j => cst c l j + behind c n (S ||| 2 ^ j) j) n).getD 0
/-- the next one -/
def nextOf (l : Option Nat) (S : Nat) : Option Nat := amTo (freeB S) (fun j => cst c l j + behind c n (S ||| 2 ^ j) j) n
def bo : Nat → Nat → Option Nat → List Nat
  | 0, _, _ => []
  | f + 1, S, l => match nextOf c n l S with
    | none => []
    | some j => j :: bo f (S ||| 2 ^ j) (some j)
/-- what an order loses, behind l -/
def oc : Option Nat → List Nat → Int
  | _, [] => 0
  | l, j :: t => cst c l j + oc (some j) t
end
section
variable {c : Nat → Nat → Int} {n : Nat}
theorem restF_more (hn : n ≤ 6) : ∀ f S l, S < 2 ^ n → 2 ^ n - 1 - S ≤ f → restF c n f S l = restF c n (f + 1) S l := by
  intro f
  induction f with
  | zero =>
    intro S l hS hf
    have : S = 2 ^ n - 1 := by omega
    subst this
    rw [restF, restF, mnTo_none fun j hj => by simp [freeB, set_full' n (by omega) j hj]]
    rfl
  | succ f ih =>
    intro S l hS hf
    rw [restF, restF]
    congr 1
    refine mnTo_congr fun j hj hfj => ?_
    obtain ⟨e1, e2, -, -, e3⟩ := add_bit hn hS hj hfj
    rw [ih _ _ e2 (by rw [e1]; omega)]
theorem behind_eq (hn : n ≤ 6) {S l : Nat} (hS : S < 2 ^ n) : behind c n S l = (mnTo (freeB S) (fun j => c l j + behind c n (S ||| 2 ^ j) j) n).getD 0 := by
  rw [behind, restF_more hn _ _ _ hS (by omega), restF]; rfl
theorem behind_val (hn : n ≤ 6) {S l : Nat} (hS : S < 2 ^ n) : behind c n S l = valOf c n (some l) S := behind_eq hn hS
theorem valOf_none {l : Option Nat} {S : Nat} (h : ∀ j, j < n → freeB S j = false) : valOf c n l S = 0 := by rw [valOf, mnTo_none h]; rfl
theorem valOf_next {l : Option Nat} {S j : Nat} (h : nextOf c n l S = some j) : valOf c n l S = cst c l j + behind c n (S ||| 2 ^ j) j := by
  rw [valOf, mnTo_am]
  unfold nextOf at h
  rw [h]; rfl
theorem next_some {l : Option Nat} {S : Nat} (h : 0 < cntFree S n) : ∃ j, nextOf c n l S = some j := by
  cases hm : nextOf c n l S with
  | some j => exact ⟨j, rfl⟩
  | none =>
    exfalso
    have := amTo_none hm
    have key : ∀ k, k ≤ n → cntFree S k = 0 := by
      intro k
      induction k with
      | zero => intro _; rfl
      | succ k ih => intro hk; rw [cntFree, ih (by omega), this k (by omega)]; rfl
    have := key n (Nat.le_refl _)
    omega
theorem behind_bounds (hn : n ≤ 6) (hc : ∀ i j, i < n → j < n → 0 ≤ c i j ∧ c i j ≤ 99) : ∀ m S l, S < 2 ^ n → l < n → cntFree S n = m → 0 ≤ behind c n S l ∧ behind c n S l ≤ 99 * m := by
  intro m
  induction m with
  | zero =>
    intro S l hS hl hm
    have : S = 2 ^ n - 1 := set_full n (by omega) S hS hm
    rw [behind_val hn hS, valOf_none (fun j hj => by rw [this]; simp [freeB, set_full' n (by omega) j hj])]
    omega
  | succ m ih =>
    intro S l hS hl hm
    obtain ⟨j, hj⟩ := next_some (c := c) (l := some l) (S := S) (n := n) (by omega)
    obtain ⟨h1, h2⟩ := amTo_some hj
    obtain ⟨-, e2, e3, -, -⟩ := add_bit hn hS h1 h2
    have := ih _ j e2 h1 (by omega)
    have := hc l j hl h1
    rw [behind_val hn hS, valOf_next hj]
    simp only [cst]
    omega
/-- a list of the free ones, each once -/
def Lists (n S : Nat) (o : List Nat) : Prop := o.Nodup ∧ (∀ j, j ∈ o → j < n ∧ freeB S j = true) ∧ o.length = cntFree S n
theorem Lists.tail (hn : n ≤ 6) {S j : Nat} {t : List Nat} (hS : S < 2 ^ n) (h : Lists n S (j :: t)) : j < n ∧ freeB S j = true ∧ Lists n (S ||| 2 ^ j) t ∧ (S ||| 2 ^ j) < 2 ^ n := by
  obtain ⟨h1, h2, h3⟩ := h
  obtain ⟨hj, hf⟩ := h2 j (by simp)
  obtain ⟨-, e2, e3, e4, -⟩ := add_bit hn hS hj hf
  rw [List.nodup_cons] at h1
  refine ⟨hj, hf, ⟨h1.2, fun i hi => ?_, by simp at h3; omega⟩, e2⟩
  obtain ⟨a, b⟩ := h2 i (by simp [hi])
  refine ⟨a, ?_⟩
  have : i ≠ j := fun e => h1.1 (e ▸ hi)
  simp only [freeB, Bool.not_eq_true'] at b ⊢
  rw [e4 i (by omega), b]
  simp [this]
/-- no order loses less -/
theorem val_le (hn : n ≤ 6) : ∀ (o : List Nat) (l : Option Nat) (S : Nat), S < 2 ^ n → Lists n S o → valOf c n l S ≤ oc c l o := by
  intro o
  induction o with
  | nil =>
    intro l S hS h
    have : S = 2 ^ n - 1 := set_full n (by omega) S hS h.2.2.symm
    rw [valOf_none (fun j hj => by rw [this]; simp [freeB, set_full' n (by omega) j hj])]
    simp [oc]
  | cons j t ih =>
    intro l S hS h
    obtain ⟨hj, hf, ht, hS2⟩ := h.tail hn hS
    obtain ⟨b, hb⟩ := next_some (c := c) (l := l) (S := S) (n := n) (cntFree_pos hj hf)
    have h1 : cst c l b + behind c n (S ||| 2 ^ b) b ≤ cst c l j + behind c n (S ||| 2 ^ j) j := amTo_le hb j hj hf
    have h2 := ih (some j) _ hS2 ht
    rw [← behind_val hn hS2] at h2
    rw [valOf_next hb, oc]
    omega
/-- the best order loses so much, and is one -/
theorem bo_val (hn : n ≤ 6) : ∀ (f : Nat) (l : Option Nat) (S : Nat), S < 2 ^ n → cntFree S n = f → Lists n S (bo c n f S l) ∧ oc c l (bo c n f S l) = valOf c n l S := by
  intro f
  induction f with
  | zero =>
    intro l S hS h
    have : S = 2 ^ n - 1 := set_full n (by omega) S hS h
    rw [valOf_none (fun j hj => by rw [this]; simp [freeB, set_full' n (by omega) j hj])]
    exact ⟨⟨by simp [bo], by simp [bo], by simp [bo, h]⟩, by simp [bo, oc]⟩
  | succ f ih =>
    intro l S hS h
    obtain ⟨b, hb⟩ := next_some (c := c) (l := l) (S := S) (n := n) (by omega)
    obtain ⟨hj, hf⟩ := amTo_some hb
    obtain ⟨e1, e2, e3, e4, -⟩ := add_bit hn hS hj hf
    obtain ⟨⟨i1, i2, i3⟩, i4⟩ := ih (some b) _ e2 (by omega)
    have eb : bo c n (f + 1) S l = b :: bo c n f (S ||| 2 ^ b) (some b) := by rw [bo, hb]
    rw [eb, valOf_next hb, oc, i4, behind_val hn e2]
    refine ⟨⟨?_, fun j hj2 => ?_, by rw [List.length_cons, i3]; omega⟩, rfl⟩
    · rw [List.nodup_cons]
      refine ⟨fun hm => ?_, i1⟩
      have := (i2 b hm).2
      simp only [freeB, Bool.not_eq_true'] at this
      rw [e4 b (by omega)] at this
      simp at this
    · rcases List.mem_cons.1 hj2 with rfl | hm
      · exact ⟨hj, hf⟩
      · obtain ⟨a, b2⟩ := i2 j hm
        refine ⟨a, ?_⟩
        simp only [freeB, Bool.not_eq_true'] at b2 ⊢
        rw [e4 j (by omega)] at b2
        simp at b2
        exact b2.1
def bestO (c : Nat → Nat → Int) (n : Nat) : List Nat := bo c n n 0 none
theorem bestO_lists (hn : n ≤ 6) : Lists n 0 (bestO c n) := (bo_val hn n none 0 (two_pow_le hn).2 (set_none n (by omega)).1).1
theorem bestO_le (hn : n ≤ 6) {o : List Nat} (h : Lists n 0 o) : oc c none (bestO c n) ≤ oc c none o := by
  have := (bo_val (c := c) hn n none 0 (two_pow_le hn).2 (set_none n (by omega)).1).2
  unfold bestO
  rw [this]
  exact val_le hn o none 0 (two_pow_le hn).2 h
theorem lists0 (hn : n ≤ 6) {o : List Nat} (h1 : o.Nodup) (h2 : ∀ j, j ∈ o → j < n) (h3 : o.length = n) : Lists n 0 o :=
  ⟨h1, fun j hj => ⟨h2 j hj, by simp [freeB]⟩, by rw [h3, (set_none n (by omega)).1]⟩
theorem Lists.get (hn : n ≤ 6) {o : List Nat} (h : Lists n 0 o) : o.Nodup ∧ (∀ j, j ∈ o → j < n) ∧ o.length = n :=
  ⟨h.1, fun j hj => (h.2.1 j hj).1, by rw [h.2.2, (set_none n (by omega)).1]⟩
def lst (l : Option Nat) : List Nat → Option Nat
  | [] => l
  | j :: t => lst (some j) t
theorem lst_snoc (a : List Nat) (x : Nat) (l : Option Nat) : lst l (a ++ [x]) = some x := by
  induction a generalizing l with
  | nil => rfl
  | cons j t ih => exact ih _
theorem oc_snoc (a : List Nat) (x : Nat) (l : Option Nat) : oc c l (a ++ [x]) = oc c l a + cst c (lst l a) x := by
  induction a generalizing l with
  | nil => simp [oc, lst]
  | cons j t ih => simp only [List.cons_append, oc, lst, ih]; omega
theorem oc_nonneg (hc : ∀ i j, i < n → j < n → 0 ≤ c i j) : ∀ (o : List Nat) (l : Option Nat), (∀ i, l = some i → i < n) → (∀ j, j ∈ o → j < n) → 0 ≤ oc c l o := by
  intro o
  induction o with
  | nil => intro l _ _; simp [oc]
  | cons j t ih =>
    intro l hl ho
    have hj := ho j (by simp)
    have := ih (some j) (fun i e => by injection e with e; subst e; exact hj) (fun i hi => ho i (by simp [hi]))
    rw [oc]
    cases l with
    | none => simp only [cst]; omega
    | some i => have := hc i j (hl i rfl) hj; simp only [cst]; omega
/-- the other way round -/
theorem oc_rev (o : List Nat) : oc (fun i j => c j i) none o.reverse = oc c none o := by
  induction o with
  | nil => rfl
  | cons j t ih =>
    rw [List.reverse_cons, oc_snoc, ih]
    cases t with
    | nil => simp [oc, lst, cst]
    | cons k t => rw [List.reverse_cons, lst_snoc]; simp only [oc, cst]; omega
theorem oc_map {c' : Nat → Nat → Int} {g : Nat → Nat} (h : ∀ i j, c' i j = c (g i) (g j)) : ∀ (o : List Nat) (l : Option Nat), oc c' l o = oc c (l.map g) (o.map g) := by
  intro o
  induction o with
  | nil => intro l; rfl
  | cons j t ih =>
    intro l
    rw [List.map_cons, oc, oc, ih]
    cases l with
    | none => rfl
    | some i => simp only [cst, Option.map_some, h]
theorem oc_zero (o : List Nat) (l : Option Nat) (h : ∀ i j, c i j = 0) : oc c l o = 0 := by
  induction o generalizing l with
  | nil => rfl
  | cons j t ih => rw [oc, ih]; cases l <;> simp [cst, h]
end
end Go.Proofs.YtblbfgoifaddiaaDoor
