/- Plain law: the walk over lengths from the greatest down visits the wants in their order. -/
import Derived.Test.YtblbfgoifaddiaaDoorFitPlain
namespace Go.Proofs.YtblbfgoifaddiaaDoor
set_option linter.unusedVariables false
theorem nodup_len : ∀ (n : Nat) (o : List Nat), o.Nodup → (∀ i ∈ o, i < n) → o.length ≤ n := by
  intro n
  induction n with
  | zero => intro o _ h; cases o with
    | nil => simp
    | cons a t => have := h a (by simp); omega
  | succ n ih =>
    intro o hn h
    have h1 := ih (o.erase n) (hn.erase n) fun i hi => by
      have h2 := (hn.mem_erase_iff).1 hi
      have := h i h2.2
      have := h2.1
      omega
    have h3 := List.length_erase (a := n) (l := o)
    rw [h3] at h1
    split at h1 <;> omega
/-- the wants of more than s, and those of s before k, in their order -/
def SizeTo (ws : List Int) (s : Int) (k : Nat) (o : List Nat) : Prop := o.Pairwise (Ahead ws) ∧ ∀ i, i ∈ o ↔ i < ws.length ∧ (s < wF ws i ∨ (wF ws i = s ∧ i < k))
section
variable {ws : List Int} {s L : Int} {k : Nat} {o : List Nat}
theorem SizeTo.zero (h : wantsOk ws L = true) : SizeTo ws L 0 [] := ⟨List.Pairwise.nil, fun i => by
  constructor
  · intro h; simp at h
  · rintro ⟨h1, h2⟩
    have := (wants_fits h i h1).2
    omega⟩
theorem SizeTo.round (h : SizeTo ws s ws.length o) : SizeTo ws (s - 1) 0 o := ⟨h.1, fun i => by
  rw [h.2 i]
  constructor
  · rintro ⟨h1, h2⟩; exact ⟨h1, by omega⟩
  · rintro ⟨h1, h2⟩; exact ⟨h1, by omega⟩⟩
theorem SizeTo.skip (h : SizeTo ws s k o) (hk : wF ws k ≠ s) : SizeTo ws s (k + 1) o := ⟨h.1, fun i => by
  rw [h.2 i]
  constructor
  · rintro ⟨h1, h2⟩; exact ⟨h1, by omega⟩
  · rintro ⟨h1, h2 | ⟨h2, h3⟩⟩
    · exact ⟨h1, .inl h2⟩
    · have : i ≠ k := fun e => hk (by rw [← e]; exact h2)
      exact ⟨h1, .inr ⟨h2, by omega⟩⟩⟩
theorem SizeTo.fresh (h : SizeTo ws s k o) (hk : wF ws k = s) : k ∉ o := fun hm => by
  have := (h.2 k).1 hm
  omega
theorem SizeTo.take (h : SizeTo ws s k o) (hk : wF ws k = s) (hl : k < ws.length) : SizeTo ws s (k + 1) (o ++ [k]) := ⟨by
  rw [List.pairwise_append]
  refine ⟨h.1, by simp, fun a ha b hb => ?_⟩
  rw [List.mem_singleton] at hb
  subst hb
  have := (h.2 a).1 ha
  unfold Ahead
  omega, fun i => by
  rw [List.mem_append, List.mem_singleton, h.2 i]
  constructor
  · rintro (⟨h1, h2⟩ | h1)
    · exact ⟨h1, by omega⟩
    · subst h1; exact ⟨hl, .inr ⟨hk, by omega⟩⟩
  · rintro ⟨h1, h2⟩
    by_cases e : i = k
    · exact .inr e
    · exact .inl ⟨h1, by omega⟩⟩
theorem SizeTo.nodup (h : SizeTo ws s k o) : o.Nodup := h.1.imp fun hab e => by subst e; exact hab.irrefl
theorem SizeTo.room (h : SizeTo ws s k o) (hk : wF ws k = s) (hl : k < ws.length) : o.length < ws.length := by
  have h2 : (o ++ [k]).Nodup := (h.take hk hl).nodup
  have h4 := nodup_len ws.length _ h2 fun i hi => (((h.take hk hl).2 i).1 hi).1
  simp at h4
  omega
theorem SizeTo.done (h : SizeTo ws 0 0 o) (hw : wantsOk ws L = true) : OrdTo ws ws.length o := ⟨h.1, fun i => by
  rw [h.2 i]
  constructor
  · rintro ⟨h1, _⟩; exact h1
  · intro h1; exact ⟨h1, .inl (by have := (wants_fits hw i h1).1; omega)⟩⟩
theorem SizeTo.ffi (h : SizeTo ws s k o) (hw : wantsOk ws L = true) : FFI ws L o (ffRun ws L o) :=
  ffi_run hw o h.nodup (fun i hi => ((h.2 i).1 hi).1) (nodup_len _ _ h.nodup fun i hi => ((h.2 i).1 hi).1)
end
/-- what the rows hold behind the wants of o -/
def whereRow (ws : List Int) (L : Int) (o : List Nat) : List Int := (List.range ws.length).map fun i => if i ∈ o then (((ffRun ws L o).2 i : Nat) : Int) else -1
def leftRow (ws : List Int) (L : Int) (o : List Nat) : List Int := (ffRun ws L o).1.map fun c => L - c
theorem whereRow_nil (ws : List Int) (L : Int) : whereRow ws L [] = List.replicate ws.length (-1) := by
  refine List.ext_getElem (by simp [whereRow]) fun i h1 h2 => ?_
  simp [whereRow]
theorem leftRow_nil (ws : List Int) (L : Int) : leftRow ws L [] = List.replicate ws.length L := by simp [leftRow, ffRun]
theorem whereRow_full {ws : List Int} {L : Int} {o : List Nat} (h : OrdTo ws ws.length o) : whereRow ws L o = fitRow ws L o := by
  unfold whereRow fitRow
  refine List.map_congr_left fun i hi => ?_
  rw [if_pos ((h.2 i).2 (List.mem_range.1 hi))]
theorem whereRow_step {ws : List Int} {L : Int} {o : List Nat} {k : Nat} (hn : k ∉ o) (hl : k < ws.length) : (whereRow ws L o).set k ((ffS L (ffRun ws L o).1 (wF ws k) : Nat) : Int) = whereRow ws L (o ++ [k]) := by
  refine List.ext_getElem (by simp [whereRow]) fun i h1 h2 => ?_
  rw [List.getElem_set]
  simp only [whereRow, List.getElem_map, List.getElem_range, ffRun_snoc, ffStep, List.mem_append, List.mem_singleton]
  by_cases e : k = i
  · subst e; simp
  · have e2 : ¬ i = k := fun h => e h.symm
    simp [e, e2]
theorem leftRow_get {ws : List Int} {L : Int} {o : List Nat} {j : Nat} {z : Int} (h : (leftRow ws L o)[j]? = some z) : (ffRun ws L o).1[j]? = some (L - z) := by
  unfold leftRow at h
  rw [List.getElem?_map] at h
  cases hc : (ffRun ws L o).1[j]? with
  | none => rw [hc] at h; cases h
  | some c =>
    rw [hc] at h
    simp only [Option.map_some, Option.some.injEq] at h
    have : c = L - z := by omega
    rw [this]
/-- the strand at which the inner loop ends is the first that has room -/
theorem leftRow_is {ws : List Int} {L : Int} {o : List Nat} {k j : Nat} {z : Int} (hb : ∀ (b : Nat) (y : Int), b < j → (leftRow ws L o)[b]? = some y → y < wF ws k) (hz : (leftRow ws L o)[j]? = some z) (hf : wF ws k ≤ z) : ffS L (ffRun ws L o).1 (wF ws k) = j :=
  ffs_is (fun b c hb1 hc => by
    have h2 : (leftRow ws L o)[b]? = some (L - c) := by unfold leftRow; rw [List.getElem?_map, hc]; rfl
    have := hb b _ hb1 h2
    omega) (leftRow_get hz) (by omega)
theorem leftRow_step {ws : List Int} {L : Int} {o : List Nat} {k j : Nat} {z : Int} (hj : ffS L (ffRun ws L o).1 (wF ws k) = j) (hz : (leftRow ws L o)[j]? = some z) : (leftRow ws L o).set j (z - wF ws k) = leftRow ws L (o ++ [k]) := by
  have hc := leftRow_get hz
  unfold leftRow
  rw [ffRun_snoc, ffStep, List.map_set, hj]
  congr 1
  rw [List.getD_eq_getElem?_getD, hc]
  simp only [Option.getD_some]
  omega
end Go.Proofs.YtblbfgoifaddiaaDoor
