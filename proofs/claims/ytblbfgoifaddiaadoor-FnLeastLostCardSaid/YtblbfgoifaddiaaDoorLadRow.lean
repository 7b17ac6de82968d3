/- Plain law: the list of ladles. -/
import Derived.Test.YtblbfgoifaddiaaDoorLadPlain
namespace Go.Proofs.YtblbfgoifaddiaaDoor
set_option linter.unusedVariables false
def tapF (xs : List (Int × Int × Int)) (i : Nat) : Int := match xs[i]? with | some q => q.2.1 | none => 0
def endF (ts : List Int) (i : Nat) : Int := (ts[i + 1]?).getD 0
def keysT (xs : List (Int × Int × Int)) : List Int := xs.map fun q => -q.2.1
theorem keysT_len (xs : List (Int × Int × Int)) : (keysT xs).length = xs.length := by simp [keysT]
theorem keysT_get {xs : List (Int × Int × Int)} {i : Nat} {k t r : Int} (h : xs[i]? = some (k, t, r)) : (keysT xs)[i]? = some (-t) := by simp [keysT, h]
theorem tapF_get {xs : List (Int × Int × Int)} {i : Nat} {k t r : Int} (h : xs[i]? = some (k, t, r)) : tapF xs i = t := by simp [tapF, h]
theorem endF_get {ts : List Int} {i : Nat} {b : Int} (h : ts[i + 1]? = some b) : endF ts i = b := by simp [endF, h]
theorem wF_keys (xs : List (Int × Int × Int)) (i : Nat) : wF (keysT xs) i = -tapF xs i := by
  unfold wF keysT tapF
  rw [List.getD_eq_getElem?_getD, List.getElem?_map]
  cases h : xs[i]? <;> simp
theorem ahead_taps {xs : List (Int × Int × Int)} {i j : Nat} : Ahead (keysT xs) i j ↔ tapF xs i < tapF xs j ∨ (tapF xs i = tapF xs j ∧ i < j) := by
  unfold Ahead
  rw [wF_keys, wF_keys]
  omega
/-- what a list of ladles holds behind the heats of o; d for the others -/
def outRow (d : Int) (n : Nat) (o : List Nat) (f : Nat → Nat) : List Int := (List.range n).map fun i => if i ∈ o then ((f i : Nat) : Int) else d
theorem outRow_len (d : Int) (n : Nat) (o : List Nat) (f : Nat → Nat) : (outRow d n o f).length = n := by simp [outRow]
theorem outRow_nil (d : Int) (n : Nat) (f : Nat → Nat) : outRow d n [] f = List.replicate n d := by
  refine List.ext_getElem (by simp [outRow]) fun i h1 h2 => ?_
  simp [outRow]
theorem outRow_get {d : Int} {n : Nat} {o : List Nat} {f : Nat → Nat} {i : Nat} (h : i < n) : (outRow d n o f)[i]? = some (if i ∈ o then ((f i : Nat) : Int) else d) := by simp [outRow, h]
theorem outRow_set {d : Int} {n : Nat} {o : List Nat} {t e : Nat → Int} {st : List Int × (Nat → Nat)} {i : Nat} (hn : i ∉ o) : (outRow d n o st.2).set i ((llS st.1 (t i) : Nat) : Int) = outRow d n (o ++ [i]) (llStep t e st i).2 := by
  refine List.ext_getElem (by simp [outRow]) fun k h1 h2 => ?_
  rw [List.getElem_set]
  simp only [outRow, List.getElem_map, List.getElem_range, llStep, List.mem_append, List.mem_singleton]
  by_cases e : i = k
  · subst e; simp
  · have e2 : ¬ k = i := fun h => e h.symm
    simp [e, e2]
def ladRow (xs : List (Int × Int × Int)) (ts : List Int) (o : List Nat) : List Int := outRow 0 xs.length o (llRun (tapF xs) (endF ts) o).2
theorem outRow_full {d d' : Int} {n : Nat} {o : List Nat} {f : Nat → Nat} (h : ∀ i, i ∈ o ↔ i < n) : outRow d n o f = outRow d' n o f := by
  unfold outRow
  refine List.map_congr_left fun i hi => ?_
  rw [if_pos ((h i).2 (List.mem_range.1 hi)), if_pos ((h i).2 (List.mem_range.1 hi))]
/-- ls is the list of ladles; none for arguments that are not right -/
def LadIs (xs : List (Int × Int × Int)) (f s : Int) (ts ls : List Int) : Prop := (castOk xs f s ts = false ∧ ls = []) ∨ (castOk xs f s ts = true ∧ ∃ o, OrdTo (keysT xs) xs.length o ∧ ls = ladRow xs ts o)
section
variable {xs : List (Int × Int × Int)} {f s : Int} {ts ls : List Int} {o : List Nat}
theorem lad_exists (xs : List (Int × Int × Int)) (f s : Int) (ts : List Int) : ∃ ls, LadIs xs f s ts ls := by
  cases h : castOk xs f s ts
  · exact ⟨[], .inl ⟨h, rfl⟩⟩
  · obtain ⟨o, ho⟩ := ord_exists (keysT xs) xs.length
    exact ⟨_, .inr ⟨h, o, ho, rfl⟩⟩
theorem LadIs.no (h : LadIs xs f s ts ls) (hw : castOk xs f s ts = false) : ls = [] := by
  rcases h with ⟨_, h⟩ | ⟨h, _⟩
  · exact h
  · rw [hw] at h; cases h
theorem LadIs.yes (h : LadIs xs f s ts ls) (hw : castOk xs f s ts = true) (ho : OrdTo (keysT xs) xs.length o) : ls = ladRow xs ts o := by
  rcases h with ⟨h, _⟩ | ⟨_, o', ho', rfl⟩
  · rw [hw] at h; cases h
  · rw [ho.unique ho']
theorem LadIs.len (h : LadIs xs f s ts ls) (hw : castOk xs f s ts = true) : ls.length = xs.length := by
  obtain ⟨o, ho⟩ := ord_exists (keysT xs) xs.length
  rw [h.yes hw ho, ladRow, outRow_len]
theorem LadIs.le (h : LadIs xs f s ts ls) : ls.length ≤ 6 := by
  cases hw : castOk xs f s ts
  · rw [h.no hw]; simp
  · rw [h.len hw]; exact (heatsOk_facts (castOk_facts hw).1).1
/-- each heat stands in its ladle for some time -/
theorem tap_end (hw : castOk xs f s ts = true) {i : Nat} (hi : i < xs.length) : tapF xs i < endF ts i := by
  obtain ⟨h1, h2, h3, h4, h5⟩ := castOk_facts hw
  obtain ⟨⟨k, t, r⟩, hx⟩ : ∃ q, xs[i]? = some q := ⟨_, List.getElem?_eq_getElem hi⟩
  obtain ⟨a, ha⟩ : ∃ q, ts[i]? = some q := ⟨_, List.getElem?_eq_getElem (by omega)⟩
  obtain ⟨b, hb⟩ : ∃ q, ts[i + 1]? = some q := ⟨_, List.getElem?_eq_getElem (by omega)⟩
  have := (heatsOk_facts h1).2 i k t r hx
  have := h5 i k t r a b hx ha hb
  have := casterOk_iff.1 h2
  rw [tapF_get hx, endF_get hb]
  omega
theorem ord_li (hw : castOk xs f s ts = true) (ho : OrdTo (keysT xs) xs.length o) (q : Nat) : LI (tapF xs) (endF ts) (o.take q) (llRun (tapF xs) (endF ts) (o.take q)) :=
  li_run _ (ho.nodup.sublist (List.take_sublist q o)) ((ho.1.sublist (List.take_sublist q o)).imp fun h => by
    rcases ahead_taps.1 h with h | h <;> omega) fun i hi => tap_end hw ((ho.2 i).1 (List.mem_of_mem_take hi))
theorem ordT_next {n q i : Nat} {ks : List Int} (ho : OrdTo ks n o) (hi : o[q]? = some i) : i < n ∧ i ∉ o.take q ∧ o.take (q + 1) = o.take q ++ [i] := by
  obtain ⟨hl, he⟩ := List.getElem?_eq_some_iff.1 hi
  refine ⟨(ho.2 i).1 (List.mem_of_getElem? hi), fun hm => ?_, by rw [List.take_add_one, hi]; rfl⟩
  obtain ⟨p, hp, hpe⟩ := List.mem_iff_getElem.1 hm
  rw [List.getElem_take] at hpe
  simp only [List.length_take] at hp
  exact List.pairwise_iff_getElem.1 ho.nodup p q (by omega) hl (by omega) (by rw [hpe, he])
/-- so far the best of those that are left; none yet: all of them have been taken -/
def BestTo (xs : List (Int × Int × Int)) (o : List Nat) (q k : Nat) (b : Int) : Prop :=
  (b = -1 ∧ ∀ i, i < k → i ∈ o.take q) ∨ ∃ i : Nat, b = (i : Int) ∧ i < k ∧ i ∉ o.take q ∧ ∀ j, j < k → j ∉ o.take q → j ≠ i → Ahead (keysT xs) i j
theorem BestTo.zero (q : Nat) : BestTo xs o q 0 (-1) := .inl ⟨rfl, fun i h => by omega⟩
theorem BestTo.taken {q k : Nat} {b : Int} (h : BestTo xs o q k b) (hk : k ∈ o.take q) : BestTo xs o q (k + 1) b := by
  rcases h with ⟨h1, h2⟩ | ⟨i, h1, h2, h3, h4⟩
  · exact .inl ⟨h1, fun i hi => by
      by_cases e : i = k
      · subst e; exact hk
      · exact h2 i (by omega)⟩
  · exact .inr ⟨i, h1, by omega, h3, fun j hj hn hne => h4 j (by
      have : j ≠ k := fun e => hn (e ▸ hk)
      omega) hn hne⟩
theorem BestTo.first {q k : Nat} {b : Int} (h : BestTo xs o q k b) (hb : b < 0) (hk : k ∉ o.take q) : BestTo xs o q (k + 1) (k : Int) := by
  rcases h with ⟨h1, h2⟩ | ⟨i, h1, _⟩
  · exact .inr ⟨k, rfl, by omega, hk, fun j hj hn hne => absurd (h2 j (by omega)) hn⟩
  · omega
theorem BestTo.better {q k i : Nat} (h : BestTo xs o q k (i : Int)) (ht : tapF xs k < tapF xs i) (hk : k ∉ o.take q) : BestTo xs o q (k + 1) (k : Int) := by
  rcases h with ⟨h1, h2⟩ | ⟨i', h1, h2, h3, h4⟩
  · omega
  · obtain rfl : i = i' := by omega
    refine .inr ⟨k, rfl, by omega, hk, fun j hj hn hne => ?_⟩
    rw [ahead_taps]
    by_cases e : j = i
    · subst e; exact .inl ht
    · rcases ahead_taps.1 (h4 j (by omega) hn e) with a | a <;> omega
theorem BestTo.worse {q k i : Nat} (h : BestTo xs o q k (i : Int)) (ht : tapF xs i ≤ tapF xs k) (hk : k ∉ o.take q) : BestTo xs o q (k + 1) (i : Int) := by
  rcases h with ⟨h1, h2⟩ | ⟨i', h1, h2, h3, h4⟩
  · omega
  · obtain rfl : i = i' := by omega
    refine .inr ⟨i, rfl, by omega, h3, fun j hj hn hne => ?_⟩
    by_cases e : j = k
    · subst e
      rw [ahead_taps]
      omega
    · exact h4 j (by omega) hn hne
theorem BestTo.done {q : Nat} {b : Int} (h : BestTo xs o q xs.length b) (ho : OrdTo (keysT xs) xs.length o) {i : Nat} (hi : o[q]? = some i) : b = (i : Int) := by
  obtain ⟨n1, n2, _⟩ := ordT_next ho hi
  rcases h with ⟨h1, h2⟩ | ⟨i', h1, h2, h3, h4⟩
  · exact absurd (h2 i n1) n2
  · by_cases e : i = i'
    · subst e; exact h1
    · have a1 := h4 i n1 n2 e
      have hm : i' ∈ o := (ho.2 i').2 h2
      obtain ⟨p, hp, hpe⟩ := List.mem_iff_getElem.1 hm
      obtain ⟨hq, hqe⟩ := List.getElem?_eq_some_iff.1 hi
      have hpq : q < p := by
        refine Classical.byContradiction fun hlt => ?_
        by_cases e2 : p = q
        · subst e2; exact e (by rw [← hpe, ← hqe])
        · exact h3 (by rw [← hpe]; exact List.mem_iff_getElem.2 ⟨p, by rw [List.length_take]; omega, by rw [List.getElem_take]⟩)
      have a2 := List.pairwise_iff_getElem.1 ho.1 q p hq hp hpq
      rw [hqe, hpe] at a2
      exact absurd a1 (fun x => a2.asymm x)
end
end Go.Proofs.YtblbfgoifaddiaaDoor
